/-
  courierworld.Number: the remainder, not below 0.
-/
import Derived.Test.YtkefbgkdkmkghaaDoorProg
import Derived.Test.YtkefbgkdkmkghaaDoorLib
namespace Go.Proofs.YtkefbgkdkmkghaaDoor
set_option linter.unusedSimpArgs false
set_option linter.unusedVariables false
open Go.RowKit
set_option maxHeartbeats 400000 in
theorem number_walk (n b : Int) (w : World) (hn1 : -9223372036854775808 ≤ n) (hn2 : n ≤ 9223372036854775807) (hb : 1 ≤ b) (hb2 : b ≤ 4611686018427387904) :
    Calls Tryd.prog 22 #[.int .i64 n, .int .i64 b] w fun e w' => e = .returned (.int .i64 (n % b)) ∧ w = w' := by
  have h1 := Int.tmod_lt_of_pos n (show (0 : Int) < b by omega)
  have h3 : n % b = if n.tmod b < 0 then n.tmod b + b else n.tmod b := by
    have e0 : 0 ≤ n % b := Int.emod_nonneg _ (by omega)
    have e1 : n % b < b := Int.emod_lt_of_pos _ (by omega)
    have e2 := @Int.tmod_eq_emod n b
    split at e2 <;> split <;> omega
  have h2 : -b ≤ n.tmod b := by
    have e0 : 0 ≤ n % b := Int.emod_nonneg _ (by omega)
    split at h3 <;> omega
  by_cases hc : n.tmod b < 0
  · rw [if_pos hc] at h3
    have H3 := Lib.hid h3
    clear h3
    go_enter Tryd.func22, Tryd.ntmps22
    go_wp2
    go_ret
    exact ⟨by rw [H3.out]; rfl, rfl⟩
  · rw [if_neg hc] at h3
    have H3 := Lib.hid h3
    clear h3
    go_enter Tryd.func22, Tryd.ntmps22
    go_wp2
    go_ret
    exact ⟨by rw [H3.out]; rfl, rfl⟩
end Go.Proofs.YtkefbgkdkmkghaaDoor
