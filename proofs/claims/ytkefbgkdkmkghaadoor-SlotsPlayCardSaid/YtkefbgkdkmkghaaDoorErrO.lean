/-
  An error, as the number of one of api's, or none.
-/
import Derived.Test.YtkefbgkdkmkghaaDoorSee
namespace Go.Proofs.YtkefbgkdkmkghaaDoor
set_option linter.unusedSimpArgs false
set_option linter.unusedVariables false
open Go.RowKit

/-- An error, as the number of one of api's, or none: as a value, as the document's code. -/
def errO (p : Nat → Addr) : Option Nat → Value
  | none => .nilIface
  | some k => errV p k
def codeO : Option Nat → Int
  | none => 0
  | some k => 101 + (k : Int)
theorem isErr_O {w : World} {p : Nat → Addr} (o : Option Nat) (h : ∀ k, o = some k → k < 19) : IsErr w p (errO p o) (codeO o) false 0 := by
  cases o with
  | none => exact .inl ⟨rfl, rfl, rfl, rfl⟩
  | some k => exact .inr (.inl ⟨k, h k rfl, rfl, rfl, rfl, rfl⟩)
theorem isV_O (o : Option Nat) : isV (codeO o) false 0 (codeO o) = true := by simp [isV, sameF]
/-- The two errors that a disk tells: no power, no such sector. -/
structure Err2 (w : World) (p : Nat → Addr) : Prop where
  at_ : ∀ k, k < 2 → w.cell? ⟨gnums.getD k 0, 0, none⟩ = some (errV p k)
theorem Err2.keep {w w' : World} {p : Nat → Addr} (h : Err2 w p) (hk : Keeps Nil w w') : Err2 w' p := ⟨fun k hk' => hk.cell (h.at_ k hk') (fun h => h)⟩
theorem Errs.e2 {w : World} {p : Nat → Addr} (h : Errs w p) : Err2 w p := ⟨fun k hk => h.at_ k (by omega)⟩
end Go.Proofs.YtkefbgkdkmkghaaDoor
