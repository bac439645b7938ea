/-
  sha's words: turned to the right.
-/
import Derived.Test.YtmbdldnldcgdjaaDoorProg
import Derived.Test.YtmbdldnldcgdjaaDoorOwn
namespace Go.Proofs.YtmbdldnldcgdjaaDoor
set_option linter.unusedSimpArgs false
set_option linter.unusedVariables false
open Go.RowKit

/-- A word turned to the right. -/
def rotr (x : Int) (n : Nat) : Int := bits .or .u32 (x * 2 ^ (32 - n) % 4294967296) (x / 2 ^ n)
theorem bits_and31 (n : Nat) (h1 : 1 ≤ n) (h2 : n ≤ 31) : bits .and .u64 (IntKind.u64.wrap (-(n : Int))) 31 = ((32 - n : Nat) : Int) := by
  have : ∀ n : Nat, n < 32 → 1 ≤ n → bits .and .u64 (IntKind.u64.wrap (-(n : Int))) 31 = ((32 - n : Nat) : Int) := by decide +kernel
  exact this n (by omega) h1

set_option maxHeartbeats 800000 in
theorem rotl_walk (x : Int) (n : Nat) (w : World) (hx : 0 ≤ x) (hx2 : x < 4294967296) (h1 : 1 ≤ n) (h2 : n ≤ 31) : Calls Tryd.prog 53 #[.int .u32 x, .int .i64 (-(n : Int))] w fun e w' => e = .returned (.int .u32 (rotr x n)) ∧ w = w' := by
  have hb := bits_and31 n h1 h2
  have hs : IntKind.u64.wrap (32 - ((32 - n : Nat) : Int)) = (n : Int) := by rw [IntKind.wrap_u64]; omega
  have hm : min (32 - n) 32 = 32 - n := by omega
  have hm2 : min n 32 = n := by omega
  have e1 := shift_shl_any .u32 .u64 x ((32 - n : Nat) : Int) (by omega)
  have e2 := shift_shr_any .u32 .u64 x (n : Int) (by omega)
  simp only [Int.toNat_natCast, IntKind.bits, hm, hm2, IntKind.wrap_u32] at e1 e2
  have HR := Lib.hid (show rotr x n = bits .or .u32 (x * 2 ^ (32 - n) % 4294967296) (x / 2 ^ n) from rfl)
  clear hm hm2
  go_enter Tryd.func53, Tryd.ntmps53
  go_wp2
  go_ret
  exact ⟨by rw [HR.out]; rfl, rfl⟩
set_option maxHeartbeats 800000 in
theorem right_walk (x : Int) (n : Nat) (w : World) (hx : 0 ≤ x) (hx2 : x < 4294967296) (h1 : 1 ≤ n) (h2 : n ≤ 31) : Calls Tryd.prog 52 #[.int .u32 x, .int .i64 n] w fun e w' => e = .returned (.int .u32 (rotr x n)) ∧ w = w' := by
  go_enter Tryd.func52, Tryd.ntmps52
  go_wp2_with fail
  refine (rotl_walk x n w hx hx2 h1 h2).mono ?_
  rintro e w' ⟨rfl, rfl⟩
  go_wp2
  go_ret
  exact ⟨rfl, rfl⟩
end Go.Proofs.YtmbdldnldcgdjaaDoor
