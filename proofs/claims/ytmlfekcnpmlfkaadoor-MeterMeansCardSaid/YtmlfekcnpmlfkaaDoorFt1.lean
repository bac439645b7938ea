/-
  Floats as text: the small functions under the shortest digits.
-/
import Derived.Test.YtmlfekcnpmlfkaaDoorFt0
import Derived.Laws.Bits64b
import Derived.Laws.BitsAllLaws
import Derived.Laws.ShiftsVarLaws
import Derived.Deep.RegionHeld3
namespace Go.Proofs.YtmlfekcnpmlfkaaDoor
set_option linter.unusedSimpArgs false
set_option linter.unusedVariables false
open Go.RowKit

theorem log10_walk (x : Int) (w : World) (h : -100000 ≤ x ∧ x ≤ 100000) : Calls Tryd.prog 52 #[.int .i64 x] w fun e w' => e = .returned (.int .i64 (x * 78913 / 262144)) ∧ w = w' := by
  obtain ⟨h1, h2⟩ := h
  go_enter Tryd.func52, Tryd.ntmps52
  go_wp2_with fail
  go_ret
  exact ⟨rfl, rfl⟩
theorem log2_walk (x : Int) (w : World) (h : -100000 ≤ x ∧ x ≤ 100000) : Calls Tryd.prog 64 #[.int .i64 x] w fun e w' => e = .returned (.int .i64 (x * 108853 / 32768)) ∧ w = w' := by
  obtain ⟨h1, h2⟩ := h
  go_enter Tryd.func64, Tryd.ntmps64
  go_wp2_with fail
  go_ret
  exact ⟨rfl, rfl⟩
theorem skewed_walk (x : Int) (w : World) (h : -100000 ≤ x ∧ x ≤ 100000) : Calls Tryd.prog 62 #[.int .i64 x] w fun e w' => e = .returned (.int .i64 ((x * 631305 - 261663) / 2097152)) ∧ w = w' := by
  obtain ⟨h1, h2⟩ := h
  go_enter Tryd.func62, Tryd.ntmps62
  go_wp2_with fail
  go_ret
  exact ⟨rfl, rfl⟩
theorem boolI_walk (b : Bool) (w : World) : Calls Tryd.prog 71 #[.bool b] w fun e w' => e = .returned (.int .i64 (b.toNat : Nat)) ∧ w = w' := by
  cases b <;>
  · go_enter Tryd.func71, Tryd.ntmps71
    go_wp2_with fail
    go_ret
    exact ⟨rfl, rfl⟩
theorem boolU_walk (b : Bool) (w : World) : Calls Tryd.prog 84 #[.bool b] w fun e w' => e = .returned (.int .u64 (b.toNat : Nat)) ∧ w = w' := by
  cases b <;>
  · go_enter Tryd.func84, Tryd.ntmps84
    go_wp2_with fail
    go_ret
    exact ⟨rfl, rfl⟩
/-- 2 to the 64. -/
abbrev W64 : Nat := 18446744073709551616
def nudgeN (u : Nat) (x : Int) : Nat := (((u : Int) + x) % 18446744073709551616).toNat
theorem nudge_walk (u : Nat) (x : Int) (w : World) (hu : u < W64) (h : x = 0 ∨ x = 1 ∨ x = -1) : Calls Tryd.prog 66 #[.int .u64 u, .int .i64 x] w fun e w' => e = .returned (.int .u64 (nudgeN u x)) ∧ w = w' := by
  have hn : ((nudgeN u x : Nat) : Int) = ((u : Int) + x % 18446744073709551616) % 18446744073709551616 := by unfold nudgeN; omega
  have HN := Lib.hid hn
  have hx1 : -1 ≤ x := by omega
  have hx2 : x ≤ 1 := by omega
  unfold W64 at hu
  clear hn h
  go_enter Tryd.func66, Tryd.ntmps66
  go_wp2_with fail
  go_ret
  exact ⟨by rw [HN.out]; rfl, rfl⟩
def ceilN (u : Nat) : Nat := (u + 3) % W64 / 4
def floorN (u : Nat) : Nat := u / 4
def roundN (u : Nat) : Nat := ((u + 1) % W64 + u / 4 % 2) % W64 / 4
theorem ceil_walk (u : Nat) (w : World) (hu : u < W64) : Calls Tryd.prog 67 #[.int .u64 u] w fun e w' => e = .returned (.int .u64 (ceilN u)) ∧ w = w' := by
  have HN := Lib.hid (show ((ceilN u : Nat) : Int) = ((u : Int) + 3) % 18446744073709551616 / 4 by unfold ceilN W64; omega)
  unfold W64 at hu
  go_enter Tryd.func67, Tryd.ntmps67
  go_wp2_with fail
  go_ret
  exact ⟨by rw [HN.out]; rfl, rfl⟩
theorem floor_walk (u : Nat) (w : World) (hu : u < W64) : Calls Tryd.prog 68 #[.int .u64 u] w fun e w' => e = .returned (.int .u64 (floorN u)) ∧ w = w' := by
  have HN := Lib.hid (show ((floorN u : Nat) : Int) = (u : Int) / 4 by unfold floorN; omega)
  unfold W64 at hu
  go_enter Tryd.func68, Tryd.ntmps68
  go_wp2_with fail
  go_ret
  exact ⟨by rw [HN.out]; rfl, rfl⟩
theorem u64_and1 (x : Nat) (h : x < W64) : bits .and .u64 (x : Int) 1 = ((x % 2 : Nat) : Int) := by
  have := bits_and_u64_nat x 1 h (by omega)
  rw [Nat.and_one_is_mod] at this
  exact this
theorem round_walk (u : Nat) (w : World) (hu : u < W64) : Calls Tryd.prog 69 #[.int .u64 u] w fun e w' => e = .returned (.int .u64 (roundN u)) ∧ w = w' := by
  have HN := Lib.hid (show ((roundN u : Nat) : Int) = (((u : Int) + 1) % 18446744073709551616 + ((u / 4 % 2 : Nat) : Int)) % 18446744073709551616 / 4 by unfold roundN W64; omega)
  have h4 : (u : Int) / 4 = ((u / 4 : Nat) : Int) := by omega
  have ha := u64_and1 (u / 4) (by unfold W64 at *; omega)
  rw [← h4] at ha
  unfold W64 at hu
  clear h4
  go_enter Tryd.func69, Tryd.ntmps69
  go_wp2_with fail
  trace_state
  go_ret
  exact ⟨by rw [HN.out]; rfl, rfl⟩
end Go.Proofs.YtmlfekcnpmlfkaaDoor
