/-
  A root and a chain that are known, by the kernel.
-/
import Derived.Test.YtnkahfpinkgimaaDoorChain
namespace Go.Proofs.YtnkahfpinkgimaaDoor
set_option linter.unusedSimpArgs false
set_option linter.unusedVariables false
open Go.RowKit
theorem chain_nums : (rootA z32 z32 != z32) = true ∧ (rootA z32 z32 != rootB z32 z32) = true := by decide +kernel
end Go.Proofs.YtnkahfpinkgimaaDoor
