/-
  A path, walked from above: each of it is the root of what stands beside the way. No memory in it.
-/
import Derived.Test.YtmbdldnldcgdjaaDoorProofPlain
namespace Go.Proofs.YtmbdldnldcgdjaaDoor
set_option linter.unusedSimpArgs false
set_option linter.unusedVariables false
open Go.RowKit

/-- From lo up to hi. -/
def segL (l : List (List Int)) (lo hi : Nat) : List (List Int) := (l.take hi).drop lo
theorem segL_len {l : List (List Int)} {lo hi : Nat} (h : hi ≤ l.length) : (segL l lo hi).length = hi - lo := by
  rw [segL, List.length_drop, List.length_take]; omega
theorem segL_take {l : List (List Int)} {lo hi k : Nat} (h1 : lo + k ≤ hi) : (segL l lo hi).take k = segL l lo (lo + k) := by
  rw [segL, segL, List.take_drop, List.take_take, Nat.min_eq_left h1]
theorem segL_drop {l : List (List Int)} {lo hi k : Nat} : (segL l lo hi).drop k = segL l (lo + k) hi := by
  rw [segL, segL, List.drop_drop]
theorem segL_all (l : List (List Int)) : segL l 0 l.length = l := by simp [segL]
theorem segL_are {l : List (List Int)} (h : AreH l) (lo hi : Nat) : AreH (segL l lo hi) := (h.take hi).drop lo
/-- The way's place: between lo and hi, m of the path are left. -/
def LongAt (h P : List (List Int)) (i lo hi m : Nat) : Prop := lo ≤ i ∧ i < hi ∧ hi ≤ h.length ∧ P.take m = pathL (i - lo) (segL h lo hi) ∧ m ≤ P.length
theorem LongAt.start {h : List (List Int)} {i : Nat} (hi : i < h.length) : LongAt h (pathL i h) i 0 h.length (pathL i h).length :=
  ⟨Nat.zero_le _, hi, Nat.le_refl _, by rw [segL_all, List.take_length]; rfl, Nat.le_refl _⟩
theorem LongAt.last {h P : List (List Int)} {i lo hi : Nat} (k : LongAt h P i lo hi 0) : hi - lo = 1 ∧ lo = i := by
  obtain ⟨h1, h2, h3, h4, _⟩ := k
  have hl := pathL_len (hi - lo) (i - lo) (segL h lo hi) (segL_len h3)
  rw [← h4] at hl
  by_cases h5 : 2 ≤ hi - lo
  · by_cases h6 : i - lo < splitN (hi - lo)
    · rw [depthN_left h5 h6] at hl; simp only [List.take_zero, List.length_nil] at hl; omega
    · rw [depthN_right h5 (by omega)] at hl; simp only [List.take_zero, List.length_nil] at hl; omega
  · omega
theorem LongAt.step {h P : List (List Int)} {i lo hi m : Nat} (k : LongAt h P i lo hi (m + 1)) :
    2 ≤ hi - lo ∧ (i < lo + splitN (hi - lo) → P.getD m [] = rootL (segL h (lo + splitN (hi - lo)) hi) ∧ LongAt h P i lo (lo + splitN (hi - lo)) m) ∧
      (lo + splitN (hi - lo) ≤ i → P.getD m [] = rootL (segL h lo (lo + splitN (hi - lo))) ∧ LongAt h P i (lo + splitN (hi - lo)) hi m) := by
  obtain ⟨h1, h2, h3, h4, h5⟩ := k
  have hs := segL_len (lo := lo) h3
  have hl := pathL_len (hi - lo) (i - lo) (segL h lo hi) hs
  rw [← h4, List.length_take] at hl
  have h6 : 2 ≤ hi - lo := by
    refine Decidable.byContradiction fun h7 => ?_
    rw [depthN_none (by omega)] at hl
    omega
  have h7 := splitN_lt h6
  have hm : P.getD m [] = (P.take (m + 1)).getD m [] := by simp [List.getD, List.getElem?_take]
  have ht : P.take m = (P.take (m + 1)).take m := by rw [List.take_take]; congr 1; omega
  refine ⟨h6, fun hi' => ?_, fun hi' => ?_⟩
  · have hp := pathL_left (i := i - lo) (l := segL h lo hi) (by omega) (by rw [hs]; omega)
    rw [hs, segL_take (by omega), segL_drop] at hp
    have hq := pathL_len (splitN (hi - lo)) (i - lo) (segL h lo (lo + splitN (hi - lo))) (by rw [segL_len (by omega)]; omega)
    rw [depthN_left h6 (by omega)] at hl
    have hle : (pathL (i - lo) (segL h lo (lo + splitN (hi - lo)))).length = m := by omega
    rw [hm, h4, hp]
    refine ⟨?_, h1, hi', by omega, ?_, by omega⟩
    · rw [← hle]; simp [List.getD]
    · rw [ht, h4, hp]; exact List.take_left' hle
  · have hp := pathL_right (i := i - lo) (l := segL h lo hi) (by omega) (by rw [hs]; omega)
    rw [hs, segL_take (by omega), segL_drop] at hp
    have hq := pathL_len (hi - (lo + splitN (hi - lo))) (i - lo - splitN (hi - lo)) (segL h (lo + splitN (hi - lo)) hi) (by rw [segL_len (by omega)])
    rw [depthN_right h6 (by omega)] at hl
    rw [show hi - lo - splitN (hi - lo) = hi - (lo + splitN (hi - lo)) by omega] at hl
    have hle : (pathL (i - lo - splitN (hi - lo)) (segL h (lo + splitN (hi - lo)) hi)).length = m := by omega
    rw [hm, h4, hp]
    refine ⟨?_, hi', h2, h3, ?_, by omega⟩
    · rw [← hle]; simp [List.getD]
    · rw [ht, h4, hp, show i - (lo + splitN (hi - lo)) = i - lo - splitN (hi - lo) by omega]; exact List.take_left' hle
end Go.Proofs.YtmbdldnldcgdjaaDoor
