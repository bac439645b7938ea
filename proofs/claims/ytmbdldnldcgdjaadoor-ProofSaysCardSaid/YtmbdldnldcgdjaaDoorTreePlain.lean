/-
  Trees of digests, as plain functions on lists of digests. No memory in it.
-/
import Derived.Test.YtmbdldnldcgdjaaDoorMany
import Derived.Lib.BitFns
namespace Go.Proofs.YtmbdldnldcgdjaaDoor
set_option linter.unusedSimpArgs false
set_option linter.unusedVariables false
open Go.RowKit

def leafL (b : List Int) : List Int := digest (0 :: b)
def nodeL (l r : List Int) : List Int := digest (1 :: (l ++ r))
/-- The greatest power of two below n. -/
def splitN (n : Nat) : Nat := if n < 2 then 0 else 2 ^ Nat.log2 (n - 1)
theorem splitN_small {n : Nat} (h : n < 2) : splitN n = 0 := by rw [splitN, if_pos h]
theorem splitN_big {n : Nat} (h : 2 ≤ n) : splitN n = 2 ^ Nat.log2 (n - 1) := by rw [splitN, if_neg (by omega)]
theorem splitN_pos {n : Nat} (h : 2 ≤ n) : 1 ≤ splitN n := by
  rw [splitN_big h]; exact Nat.one_le_two_pow
theorem splitN_lt {n : Nat} (h : 2 ≤ n) : splitN n < n := by
  rw [splitN_big h]
  have := Nat.log2_self_le (n := n - 1) (by omega)
  omega
theorem splitN_most {n : Nat} (h : 2 ≤ n) : n ≤ 2 * splitN n := by
  rw [splitN_big h]
  have h1 : n - 1 < 2 ^ (Nat.log2 (n - 1) + 1) := Nat.lt_log2_self
  rw [Nat.pow_succ] at h1
  omega
theorem splitN_lt' {n : Nat} (h : 1 ≤ n) : splitN n < n := by
  by_cases h2 : 2 ≤ n
  · exact splitN_lt h2
  · rw [splitN_small (by omega)]; omega
theorem splitN_le (n : Nat) : splitN n ≤ n := by
  by_cases h2 : 1 ≤ n
  · exact Nat.le_of_lt (splitN_lt' h2)
  · rw [splitN_small (by omega)]; omega
/-- A power of two below n that doubled is not is that one. -/
theorem splitN_eq {n j : Nat} (h1 : 2 ^ j < n) (h2 : n ≤ 2 * 2 ^ j) : splitN n = 2 ^ j := by
  have h0 : 1 ≤ 2 ^ j := Nat.one_le_two_pow
  rw [splitN_big (by omega)]
  congr 1
  exact (Nat.log2_eq_iff (by omega)).2 ⟨by omega, by rw [Nat.pow_succ]; omega⟩
/-- A power of two, doubled while it may be. -/
theorem pow_next {n j : Nat} (h : 2 * 2 ^ j < n) : 2 ^ (j + 1) < n := by rw [Nat.pow_succ]; omega

theorem bitLenAux_eq : ∀ f x : Nat, x < 2 ^ f → Go.Lib.bitLenAux f x = if x = 0 then 0 else Nat.log2 x + 1
  | 0, x, h => by rw [if_pos (by simpa using h)]; rfl
  | f + 1, x, h => by
    rw [Go.Lib.bitLenAux]
    by_cases h0 : x = 0
    · rw [if_pos h0, if_pos h0]
    · rw [if_neg h0, if_neg h0, bitLenAux_eq f (x / 2) (by rw [Nat.pow_succ] at h; omega)]
      by_cases h1 : x / 2 = 0
      · have : x = 1 := by omega
        subst this
        rfl
      · rw [if_neg h1]
        have : Nat.log2 x = Nat.log2 (x / 2) + 1 := by
          rw [Nat.log2_def x, if_pos (by omega)]
        omega
theorem bitLen_eq {x : Nat} (h0 : x ≠ 0) (h : x < 2 ^ 64) : Go.Lib.bitLen x = Nat.log2 x + 1 := by
  rw [Go.Lib.bitLen, bitLenAux_eq 64 x h, if_neg h0]
theorem log2_lt40 {n : Nat} (h2 : 2 ≤ n) (h : n ≤ 2 ^ 40) : Nat.log2 (n - 1) < 40 := (Nat.log2_lt (by omega)).2 (by omega)

/-- The root over digests. -/
def rootL (l : List (List Int)) : List Int :=
  if h : l.length < 2 then (if l.length = 0 then digest [] else l.getD 0 []) else
    nodeL (rootL (l.take (splitN l.length))) (rootL (l.drop (splitN l.length)))
termination_by l.length
decreasing_by
  · rw [List.length_take]; have := splitN_lt (n := l.length) (by omega); omega
  · rw [List.length_drop]; have := splitN_pos (n := l.length) (by omega); omega
theorem rootL_none : rootL [] = digest [] := by rw [rootL]; rfl
theorem rootL_one {l : List (List Int)} (h : l.length = 1) : rootL l = l.getD 0 [] := by
  rw [rootL, dif_pos (by omega), if_neg (by omega)]
theorem rootL_more {l : List (List Int)} (h : 2 ≤ l.length) : rootL l = nodeL (rootL (l.take (splitN l.length))) (rootL (l.drop (splitN l.length))) := by
  conv => lhs; rw [rootL]
  rw [dif_neg (by omega)]
/-- Digests: 32 bytes each. -/
def AreH (l : List (List Int)) : Prop := ∀ x ∈ l, x.length = 32 ∧ AreB x
theorem AreH.take {l : List (List Int)} (h : AreH l) (k : Nat) : AreH (l.take k) := fun x hx => h x (List.mem_of_mem_take hx)
theorem AreH.drop {l : List (List Int)} (h : AreH l) (k : Nat) : AreH (l.drop k) := fun x hx => h x (List.mem_of_mem_drop hx)
theorem AreH.at_ {l : List (List Int)} (h : AreH l) {i : Nat} (hi : i < l.length) : (l.getD i []).length = 32 ∧ AreB (l.getD i []) := by
  rw [List.getD_eq_getElem?_getD, List.getElem?_eq_getElem hi]; exact h _ (List.getElem_mem hi)
theorem AreH.append {l r : List (List Int)} (h : AreH l) (k : AreH r) : AreH (l ++ r) := fun x hx => (List.mem_append.1 hx).elim (h x) (k x)
theorem leafL_len (b : List Int) : (leafL b).length = 32 := digest_len _
theorem leafL_bytes (b : List Int) : AreB (leafL b) := digest_bytes _
theorem nodeL_len (l r : List Int) : (nodeL l r).length = 32 := digest_len _
theorem nodeL_bytes (l r : List Int) : AreB (nodeL l r) := digest_bytes _
theorem rootL_is {l : List (List Int)} (h : AreH l) : (rootL l).length = 32 ∧ AreB (rootL l) := by
  by_cases h2 : 2 ≤ l.length
  · rw [rootL_more h2]; exact ⟨digest_len _, digest_bytes _⟩
  · by_cases h1 : l.length = 1
    · rw [rootL_one h1]; exact h.at_ (by omega)
    · have : l = [] := List.eq_nil_of_length_eq_zero (by omega)
      subst this
      rw [rootL_none]; exact ⟨digest_len _, digest_bytes _⟩
end Go.Proofs.YtmbdldnldcgdjaaDoor
