/-
  math/bits.Len: laid off the shelf.
-/
import Derived.Shelf.Small.Bits
import Derived.Test.YtmbdldnldcgdjaaDoorHs
namespace Go.Proofs.YtmbdldnldcgdjaaDoor
set_option linter.unusedSimpArgs false
set_option linter.unusedVariables false
open Go.RowKit

def lenRen : Go.Shelf.Ren := ⟨fun n => if n = 125 then 36 else if n = 128 then 42 else 43,
  fun n => if n = 3 then 3 else if n = 4 then 4 else if n = 5 then 5 else if n = 9 then 9 else if n = 46 then 54 else if n = 51 then 68 else 67, fun n => n⟩
theorem lenLays : Go.Proofs.Lays.n125 Tryd.prog lenRen := by
  constructor <;> intros <;> kernel_rfl
theorem len_walk (x : Int) (w : World) (h0 : 0 ≤ x) (h1 : x ≤ 18446744073709551615) :
    Calls Tryd.prog 36 #[.int .u64 x] w fun e w' => e = .returned (.int .i64 (Lib.bitLen x.toNat)) ∧ w' = w := Go.Proofs.Any.bits_Len lenLays x w h0 h1
end Go.Proofs.YtmbdldnldcgdjaaDoor
