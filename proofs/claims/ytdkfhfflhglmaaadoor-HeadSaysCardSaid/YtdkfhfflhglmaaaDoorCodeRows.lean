/-
  What CodeBack writes, in plain lists: where each row stands in it.
-/
import Derived.Test.YtdkfhfflhglmaaaDoorReader
import Derived.Test.YtdkfhfflhglmaaaDoorCode
namespace Go.Proofs.YtdkfhfflhglmaaaDoor
set_option linter.unusedSimpArgs false
set_option linter.unusedVariables false

/-- A row as it is written: how long, itself, itself again. -/
def encR (r : List Int) : List Int := le4 r.length ++ (r ++ r)
def encRows (R : Nat → List Int) : Nat → List Int
  | 0 => []
  | i + 1 => encRows R i ++ encR (R i)
def encAll (n : Int) (len : Nat) (R : Nat → List Int) (k : Nat) : List Int := (le4 n ++ [(len : Int) % 256]) ++ encRows R k
def posR (R : Nat → List Int) (i : Nat) : Nat := 5 + (encRows R i).length
theorem encAll_len (n : Int) (len : Nat) (R : Nat → List Int) (k : Nat) : (encAll n len R k).length = posR R k := by simp [encAll, posR, le4]; omega
theorem posR_zero (R : Nat → List Int) : posR R 0 = 5 := rfl
theorem posR_succ (R : Nat → List Int) (i : Nat) : posR R (i + 1) = posR R i + 4 + (R i).length + (R i).length := by simp [posR, encRows, encR, le4]; omega
theorem posR_le (R : Nat → List Int) (i : Nat) : ∀ k, posR R i ≤ posR R (i + k)
  | 0 => Nat.le_refl _
  | k + 1 => by
    have h1 := posR_le R i k
    have h2 := posR_succ R (i + k)
    rw [show i + (k + 1) = i + k + 1 by omega]
    omega
theorem encRows_split (R : Nat → List Int) (i : Nat) : ∀ k, ∃ B, encRows R (i + 1 + k) = encRows R i ++ encR (R i) ++ B
  | 0 => ⟨[], by simp [encRows]⟩
  | k + 1 => by
    obtain ⟨B, hB⟩ := encRows_split R i k
    refine ⟨B ++ encR (R (i + 1 + k)), ?_⟩
    rw [show i + 1 + (k + 1) = (i + 1 + k) + 1 by omega]
    show encRows R (i + 1 + k) ++ _ = _
    rw [hB, List.append_assoc]
theorem num4_at (A B : List Int) (q : Int) (h0 : 0 ≤ q) (h1 : q < 4294967296) : num4 (A ++ (le4 q ++ B)) A.length = q := by
  have g : ∀ j, (A ++ (le4 q ++ B)).getD (A.length + j) 0 = (le4 q ++ B).getD j 0 := fun j => by simp [List.getD, List.getElem?_append_right]
  have g0 := g 0
  rw [Nat.add_zero] at g0
  unfold num4
  rw [g0, g 1, g 2, g 3]
  simp [le4, List.getD]
  omega
theorem cutL_at (A r B : List Int) (n : Nat) (hn : n = A.length) (k : Nat) (hk : k = r.length) : cutL (A ++ (r ++ B)) n k = r := by
  subst hn hk
  simp [cutL]
theorem num4_take (X : List Int) (m a : Nat) (h : a + 4 ≤ (X.take m).length) : num4 (X.take m) a = num4 X a := by
  have hl : (X.take m).length ≤ m := by simp; omega
  have g : ∀ j, j < 4 → (X.take m).getD (a + j) 0 = X.getD (a + j) 0 := fun j hj => by
    simp [List.getD, List.getElem?_take, show a + j < m by omega]
  have g0 := g 0 (by omega)
  rw [Nat.add_zero] at g0
  unfold num4
  rw [g0, g 1 (by omega), g 2 (by omega), g 3 (by omega)]
theorem cutL_take (X : List Int) (m a n : Nat) (h : a + n ≤ (X.take m).length) : cutL (X.take m) a n = cutL X a n := by
  have hl : (X.take m).length ≤ m := by simp; omega
  unfold cutL
  rw [List.drop_take, List.take_take, Nat.min_eq_left (by omega)]
theorem getD_take (X : List Int) (m j : Nat) (h : j < (X.take m).length) : (X.take m).getD j 0 = X.getD j 0 := by
  have hl : (X.take m).length ≤ m := by simp; omega
  simp [List.getD, List.getElem?_take, show j < m by omega]

/-- Bytes that begin as what was written begins. -/
structure Encoded (l : List Int) (n : Int) (len : Nat) (R : Nat → List Int) : Prop where
  first : 4 ≤ l.length → num4 l 0 = n
  count : 5 ≤ l.length → l.getD 4 0 = (len : Int) % 256
  num : ∀ i, i < len → posR R i + 4 ≤ l.length → num4 l (posR R i) = (R i).length
  one : ∀ i, i < len → posR R i + 4 + (R i).length ≤ l.length → cutL l (posR R i + 4) (R i).length = R i
  two : ∀ i, i < len → posR R i + 4 + (R i).length + (R i).length ≤ l.length → cutL l (posR R i + 4 + (R i).length) (R i).length = R i
theorem encoded (n : Int) (h0 : 0 ≤ n) (h1 : n < 4294967296) (len : Nat) (R : Nat → List Int) (hR : ∀ i, i < len → (R i).length < 4294967296) (B : List Int) (m : Nat) : Encoded ((encAll n len R len ++ B).take m) n len R := by
  have split : ∀ i, i < len → ∃ A C, encAll n len R len ++ B = A ++ (le4 (R i).length ++ (R i ++ (R i ++ C))) ∧ A.length = posR R i := fun i hi => by
    obtain ⟨C, hC⟩ := encRows_split R i (len - (i + 1))
    rw [show i + 1 + (len - (i + 1)) = len by omega] at hC
    refine ⟨(le4 n ++ [(len : Int) % 256]) ++ encRows R i, C ++ B, ?_, by simp [posR, le4]; omega⟩
    unfold encAll
    rw [hC]
    simp [encR, List.append_assoc]
  refine ⟨fun h => ?_, fun h => ?_, fun i hi h => ?_, fun i hi h => ?_, fun i hi h => ?_⟩
  · rw [num4_take _ _ _ (by omega)]
    have := num4_at [] ([(len : Int) % 256] ++ encRows R len ++ B) n h0 h1
    simpa [encAll, List.append_assoc] using this
  · rw [getD_take _ _ _ (by omega)]
    simp [encAll, le4, List.getD]
  · rw [num4_take _ _ _ h]
    obtain ⟨A, C, hA, hl⟩ := split i hi
    rw [hA, ← hl]
    exact num4_at A _ _ (by omega) (by have := hR i hi; omega)
  · rw [cutL_take _ _ _ _ (by omega)]
    obtain ⟨A, C, hA, hl⟩ := split i hi
    rw [hA, ← List.append_assoc]
    exact cutL_at (A ++ le4 (R i).length) (R i) (R i ++ C) _ (by simp [le4, hl]) _ rfl
  · rw [cutL_take _ _ _ _ (by omega)]
    obtain ⟨A, C, hA, hl⟩ := split i hi
    rw [hA, ← List.append_assoc, ← List.append_assoc]
    exact cutL_at (A ++ le4 (R i).length ++ R i) (R i) C _ (by simp [le4, hl]; omega) _ rfl
end Go.Proofs.YtdkfhfflhglmaaaDoor
