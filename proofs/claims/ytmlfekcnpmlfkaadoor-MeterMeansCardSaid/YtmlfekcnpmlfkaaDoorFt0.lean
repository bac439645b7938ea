/-
  math/bits.Len64, Mul64: laid off the shelf.
-/
import Derived.Shelf.Small.Bits
import Derived.Shelf.Bits.Mul64
import Derived.Lib.Hide
import Derived.Test.YtmlfekcnpmlfkaaDoorBytes
namespace Go.Proofs.YtmlfekcnpmlfkaaDoor
set_option linter.unusedSimpArgs false
set_option linter.unusedVariables false
open Go.RowKit

def lenRen : Go.Shelf.Ren := ⟨fun _ => 48,
  fun n => if n = 3 then 3 else if n = 4 then 4 else if n = 5 then 5 else if n = 9 then 9 else if n = 46 then 76 else if n = 51 then 52 else 22, fun n => n⟩
theorem len64Lays : Go.Proofs.Lays.n129 Tryd.prog lenRen := by
  constructor <;> intros <;> kernel_rfl
theorem len64_walk (x : Int) (w : World) (h0 : 0 ≤ x) (h1 : x ≤ 18446744073709551615) :
    Calls Tryd.prog 48 #[.int .u64 x] w fun e w' => e = .returned (.int .i64 (Lib.bitLen x.toNat)) ∧ w' = w := Go.Proofs.Any.bits_Len64 len64Lays x w h0 h1
def mulRen : Go.Shelf.Ren := ⟨fun _ => 83,
  fun n => if n = 46 then 76 else if n = 53 then 22 else if n = 3 then 3 else 22, fun n => n⟩
theorem mul64Lays : Go.Proofs.Lays.n264 Tryd.prog mulRen := by
  constructor <;> intros <;> kernel_rfl
theorem mul64_walk (x y : Nat) (hx : x < 18446744073709551616) (hy : y < 18446744073709551616) (w : World) :
    Calls Tryd.prog 83 #[.int .u64 x, .int .u64 y] w fun e w' => e = .returned (.tuple #[.int .u64 ((x * y / 18446744073709551616 : Nat) : Int), .int .u64 ((x * y % 18446744073709551616 : Nat) : Int)]) ∧ w' = w := Go.Proofs.Any.bits_Mul64 mul64Lays x y hx hy w
end Go.Proofs.YtmlfekcnpmlfkaaDoor
