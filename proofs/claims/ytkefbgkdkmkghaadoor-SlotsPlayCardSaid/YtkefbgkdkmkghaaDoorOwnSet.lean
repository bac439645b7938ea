/-
  A cell of one's own slice is written. No program in sight but for the model's own.
-/
import Derived.Test.YtkefbgkdkmkghaaDoorOwn
namespace Go.Proofs.YtkefbgkdkmkghaaDoor
set_option linter.unusedSimpArgs false
set_option linter.unusedVariables false
open Go.RowKit

/-- A cell of one's own slice is written. -/
theorem Own.setCell {w : World} {e : TypeId} {size : Nat} {g cap n : Nat} {xs : List Value} (h : Own w e size (Option.some ⟨g, 0, none⟩) cap n xs) (i : Nat) (hi : i < xs.length) (v : Value) : Own (w.setCell ⟨g, i, none⟩ v) e size (Option.some ⟨g, 0, none⟩) cap n (xs.set i v) := by
  obtain ⟨h1, h2, h3, h4⟩ := h
  refine ⟨by rw [List.length_set]; exact h1, h2, h3, ?_⟩
  rcases h4 with ⟨h5, _⟩ | ⟨g', sp, h5, hb, hl⟩
  · cases h5
  · cases h5
    refine .inr ⟨g, sp, rfl, ?_, by rw [List.length_append, List.length_set, ← List.length_append]; exact hl⟩
    rw [← List.set_append_left _ _ hi]
    exact hb.set i v
theorem Own.frozen {w : World} {e : TypeId} {size : Nat} {g cap n : Nat} {xs : List Value} (h : Own w e size (Option.some ⟨g, 0, none⟩) cap n xs) (i : Nat) : w.frozen? ⟨g, i, none⟩ = false := by
  obtain ⟨_, _, _, h4⟩ := h
  rcases h4 with ⟨h5, _⟩ | ⟨g', sp, h5, hb, _⟩
  · cases h5
  · cases h5; exact hb.frozen i
/-- Its cells, one by one. -/
theorem Own.cellAt {w : World} {e : TypeId} {size : Nat} {g cap n : Nat} {xs : List Value} (h : Own w e size (Option.some ⟨g, 0, none⟩) cap n xs) (i : Nat) {v : Value} (hv : xs[i]? = Option.some v) : w.cell? ⟨g, i, none⟩ = Option.some v := by
  have := (h.range rfl).2.2 i v hv
  rwa [Nat.zero_add] at this
end Go.Proofs.YtkefbgkdkmkghaaDoor
