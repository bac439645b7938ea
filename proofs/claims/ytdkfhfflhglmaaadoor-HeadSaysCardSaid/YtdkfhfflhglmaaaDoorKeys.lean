/-
  Keys and digests: arrays of bytes as values; two of them held against each other.
-/
import Derived.Test.YtdkfhfflhglmaaaDoorProg
import Derived.Test.YtdkfhfflhglmaaaDoorOwn
import Derived.Stop.BytesEq
namespace Go.Proofs.YtdkfhfflhglmaaaDoor
set_option linter.unusedSimpArgs false
set_option linter.unusedVariables false
open Go.RowKit

/-- Bytes, each in its range. -/
def AreB (l : List Int) : Prop := ∀ x ∈ l, 0 ≤ x ∧ x < 256
def toB (l : List Int) : List UInt8 := l.map fun x => UInt8.ofNat x.toNat
theorem byteV_toB {l : List Int} (h : AreB l) : (toB l).map Go.Extern.Stop.cell = byteV l := by
  unfold toB byteV
  rw [List.map_map]
  apply List.map_congr_left
  intro x hx
  have := h x hx
  simp only [Function.comp, Go.Extern.Stop.cell]
  congr 1
  rw [UInt8.toNat_ofNat']
  show ((x.toNat % 256 : Nat) : Int) = x
  omega
theorem toB_eq {l r : List Int} (h : AreB l) (k : AreB r) : (toB l == toB r) = (l == r) := by
  have : ∀ (l r : List Int), AreB l → AreB r → toB l = toB r → l = r := by
    intro l
    induction l with
    | nil => intro r _ _ e; cases r with | nil => rfl | cons => simp [toB] at e
    | cons x l ih =>
      intro r hl hr e
      cases r with
      | nil => simp [toB] at e
      | cons y r =>
        simp only [toB, List.map_cons, List.cons.injEq] at e
        have hx := hl x (by simp)
        have hy := hr y (by simp)
        have e1 : x.toNat % 256 = y.toNat % 256 := by
          have := congrArg UInt8.toNat e.1
          simpa using this
        rw [show x = y by omega, ih r (fun z hz => hl z (by simp [hz])) (fun z hz => hr z (by simp [hz])) e.2]
  rw [Bool.eq_iff_iff, beq_iff_eq, beq_iff_eq]
  exact ⟨this l r h k, fun e => by rw [e]⟩
/-- A key as a value. -/
abbrev keyV (l : List Int) : Value := .agg (byteV l).toArray
theorem eqlKey {P : Program} (t e : TypeId) (n : Nat) (ht : P.underlying t = some (.array n e)) (he : P.underlying e = some (.int .u8)) (hsz : ∀ w, (sizeOf e).run P w = .ok 1 w) {l r : List Int} (hl : l.length = n) (hr : r.length = n) (bl : AreB l) (br : AreB r) (w : World) :
    (binOp .eql t (keyV l) (keyV r)).run P w = .ok (.bool (l == r)) w := by
  have := Go.run_eql_bytes w t e n ht he hsz (toB l) (toB r) (by simpa [toB] using hl) (by simpa [toB] using hr)
  rw [byteV_toB bl, byteV_toB br, toB_eq bl br] at this
  exact this
theorem neqKey {P : Program} (t e : TypeId) (n : Nat) (ht : P.underlying t = some (.array n e)) (he : P.underlying e = some (.int .u8)) (hsz : ∀ w, (sizeOf e).run P w = .ok 1 w) {l r : List Int} (hl : l.length = n) (hr : r.length = n) (bl : AreB l) (br : AreB r) (w : World) :
    (binOp .neq t (keyV l) (keyV r)).run P w = .ok (.bool (l != r)) w := by
  have := Go.run_equalIn_bytes w 9998 t e n ht he hsz (toB l) (toB r) (by simpa [toB] using hl) (by simpa [toB] using hr)
  rw [byteV_toB bl, byteV_toB br, toB_eq bl br] at this
  rw [run_neq_struct, this]
  rfl
end Go.Proofs.YtdkfhfflhglmaaaDoor
