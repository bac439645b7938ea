/-
  mac.Derive and courierref1.Derive, where so many bytes can't be derived.
-/
import Derived.Test.YtnkahfpinkgimaaDoorRefDerive
import Derived.Test.YtnkahfpinkgimaaDoorSee
namespace Go.Proofs.YtnkahfpinkgimaaDoor
set_option linter.unusedSimpArgs false
set_option linter.unusedVariables false
open Go.RowKit

set_option maxHeartbeats 800000 in
theorem derive_range {w : World} {p : Nat → Addr} (hE : Errs w p) {sa ka ia : Option Addr} {sn sc kn kc im ic : Nat} {n : Int} (hn : n < 0 ∨ 8160 < n) :
    Calls Tryd.prog 17 #[.slice sa sn sc, .slice ka kn kc, .slice ia im ic, .int .i64 n] w fun e w' => e = .returned (.tuple #[.slice none 0 0, errV p 1]) ∧ Keeps Nil w w' := by
  have g1 : w.cell? ⟨0, 0, none⟩ = some (errV p 1) := hE.at_ 1 (by decide)
  clear hE
  generalize errV p 1 = V at *
  have hd : (decide (n < 0) || decide (8160 < n)) = true := by rcases hn with h | h <;> simp [h]
  rcases hn with h | h
  · have h1 : decide (n < 0) = true := by simpa using h
    go_enter Tryd.func17, Tryd.ntmps17
    go_wp2_with fail
    go_quiet (fail)
    go_wp2_with fail
    go_ret2
    exact ⟨rfl, (Keeps.refl _ _).drewN _⟩
  · have h1 : decide (n < 0) = false := by simp; omega
    have h2 : decide (8160 < n) = true := by simpa using h
    go_enter Tryd.func17, Tryd.ntmps17
    go_wp2_with fail
    go_quiet (fail)
    go_wp2_with fail
    go_ret2
    exact ⟨rfl, (Keeps.refl _ _).drewN _⟩
set_option maxHeartbeats 800000 in
theorem refDerive_range {w : World} {sa ka ia : Option Addr} {sn sc kn kc im ic : Nat} {n : Int} (hn : n < 0 ∨ 8160 < n) :
    Calls Tryd.prog 14 #[.slice sa sn sc, .slice ka kn kc, .slice ia im ic, .int .i64 n] w fun e w' => e = .returned (.tuple #[.slice none 0 0, .bool false]) ∧ w = w' := by
  rcases hn with h | h
  · have h1 : decide (n < 0) = true := by simpa using h
    go_enter Tryd.func14, Tryd.ntmps14
    go_wp2_with fail
    go_ret2
    exact ⟨rfl, rfl⟩
  · have h1 : decide (n < 0) = false := by simp; omega
    have h2 : decide (8160 < n) = true := by simpa using h
    go_enter Tryd.func14, Tryd.ntmps14
    go_wp2_with fail
    go_ret2
    exact ⟨rfl, rfl⟩
end Go.Proofs.YtnkahfpinkgimaaDoor
