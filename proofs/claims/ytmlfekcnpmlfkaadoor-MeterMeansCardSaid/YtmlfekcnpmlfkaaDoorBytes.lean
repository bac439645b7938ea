/-
  Bytes copied and compared: slices.Clone at bytes, courierref.Bytes, courierref.SameBytes.
-/
import Derived.Test.YtmlfekcnpmlfkaaDoorProg
import Derived.Test.YtmlfekcnpmlfkaaDoorOwn
namespace Go.Proofs.YtmlfekcnpmlfkaaDoor
set_option linter.unusedSimpArgs false
set_option linter.unusedVariables false
open Go.RowKit

theorem Tryd.info8 : (Tryd.prog.info? 5).map (fun i => (i.zero, i.size, i.bytes)) = some (some (.int .u8 0), 1, 1) := by kernel_rfl
theorem Tryd.info8s : (Tryd.prog.info? 5).map (fun i => (i.zero.map (·.cells.size), i.size, i.bytes)) = some (some 1, 1, 1) := by kernel_rfl

/-- A slice of bytes of the program's own, new since a world w. -/
def FreshB (w w' : World) (l : List Int) (e : Ending) : Prop :=
  ∃ a cap, e = .returned (.slice a l.length cap) ∧ Own w' 5 1 a cap l.length (byteV l) ∧ Keeps Nil w w' ∧ (∀ k, blkOf a k → w.heap.size ≤ k)

theorem Tryd.bs8 : (Tryd.prog.info? 5).map (fun i => (i.size, i.zero.isSome)) = some (1, true) := by kernel_rfl

/-- Are two lists of bytes the same? -/
def sameL (a b : List Int) : Bool := a == b

end Go.Proofs.YtmlfekcnpmlfkaaDoor
