/-
  Paths in trees of digests, as plain functions. No memory in it.
-/
import Derived.Test.YtmbdldnldcgdjaaDoorTreePlain
namespace Go.Proofs.YtmbdldnldcgdjaaDoor
set_option linter.unusedSimpArgs false
set_option linter.unusedVariables false
open Go.RowKit

/-- The roots beside a leaf's way up, from below. -/
def pathL (i : Nat) (l : List (List Int)) : List (List Int) :=
  if h : l.length < 2 then [] else
    if i < splitN l.length then pathL i (l.take (splitN l.length)) ++ [rootL (l.drop (splitN l.length))]
    else pathL (i - splitN l.length) (l.drop (splitN l.length)) ++ [rootL (l.take (splitN l.length))]
termination_by l.length
decreasing_by
  · rw [List.length_take]; have := splitN_lt (n := l.length) (by omega); omega
  · rw [List.length_drop]; have := splitN_pos (n := l.length) (by omega); omega
theorem pathL_none {i : Nat} {l : List (List Int)} (h : l.length < 2) : pathL i l = [] := by rw [pathL, dif_pos h]
theorem pathL_left {i : Nat} {l : List (List Int)} (h : 2 ≤ l.length) (hi : i < splitN l.length) : pathL i l = pathL i (l.take (splitN l.length)) ++ [rootL (l.drop (splitN l.length))] := by
  conv => lhs; rw [pathL]
  rw [dif_neg (by omega), if_pos hi]
theorem pathL_right {i : Nat} {l : List (List Int)} (h : 2 ≤ l.length) (hi : splitN l.length ≤ i) : pathL i l = pathL (i - splitN l.length) (l.drop (splitN l.length)) ++ [rootL (l.take (splitN l.length))] := by
  conv => lhs; rw [pathL]
  rw [dif_neg (by omega), if_neg (by omega)]
/-- From above: whether it is in the first half, each time. -/
def leftsL (i n : Nat) : List Bool :=
  if h : n < 2 then [] else
    if i < splitN n then true :: leftsL i (splitN n) else false :: leftsL (i - splitN n) (n - splitN n)
termination_by n
decreasing_by
  · exact splitN_lt (by omega)
  · have := splitN_pos (n := n) (by omega); omega
theorem leftsL_none {i n : Nat} (h : n < 2) : leftsL i n = [] := by rw [leftsL, dif_pos h]
theorem leftsL_left {i n : Nat} (h : 2 ≤ n) (hi : i < splitN n) : leftsL i n = true :: leftsL i (splitN n) := by
  conv => lhs; rw [leftsL]
  rw [dif_neg (by omega), if_pos hi]
theorem leftsL_right {i n : Nat} (h : 2 ≤ n) (hi : splitN n ≤ i) : leftsL i n = false :: leftsL (i - splitN n) (n - splitN n) := by
  conv => lhs; rw [leftsL]
  rw [dif_neg (by omega), if_neg (by omega)]
/-- How long a leaf's path is. -/
def depthN (i n : Nat) : Nat := (leftsL i n).length
theorem depthN_none {i n : Nat} (h : n < 2) : depthN i n = 0 := by rw [depthN, leftsL_none h]; rfl
theorem depthN_left {i n : Nat} (h : 2 ≤ n) (hi : i < splitN n) : depthN i n = 1 + depthN i (splitN n) := by
  rw [depthN, leftsL_left h hi, List.length_cons, depthN]; omega
theorem depthN_right {i n : Nat} (h : 2 ≤ n) (hi : splitN n ≤ i) : depthN i n = 1 + depthN (i - splitN n) (n - splitN n) := by
  rw [depthN, leftsL_right h hi, List.length_cons, depthN]; omega
theorem depthN_le : ∀ n i : Nat, depthN i n ≤ n - 1 := fun n => by
  induction n using Nat.strongRecOn with
  | _ n ih =>
    intro i
    by_cases h : 2 ≤ n
    · have h1 := splitN_pos h
      have h2 := splitN_lt h
      by_cases hi : i < splitN n
      · rw [depthN_left h hi]; have := ih (splitN n) h2 i; omega
      · rw [depthN_right h (by omega)]; have := ih (n - splitN n) (by omega) (i - splitN n); omega
    · rw [depthN_none (by omega)]; omega
/-- One step up. -/
def stepUp (h : List Int) (b : Bool) (p : List Int) : List Int := if b then nodeL h p else nodeL p h
/-- What a path comes to: the document's way. -/
def upR (leaf : List Int) (lefts : List Bool) (path : List (List Int)) (j : Nat) : List Int :=
  match j with
  | 0 => leaf
  | j + 1 => stepUp (upR leaf lefts path j) (lefts.getD (lefts.length - 1 - j) false) (path.getD j [])
/-- The program's. -/
def upL (leaf : List Int) (i n : Nat) (path : List (List Int)) : List Int :=
  if h : n < 2 then leaf else
    if i < splitN n then nodeL (upL leaf i (splitN n) (path.take (path.length - 1))) (path.getD (path.length - 1) [])
    else nodeL (path.getD (path.length - 1) []) (upL leaf (i - splitN n) (n - splitN n) (path.take (path.length - 1)))
termination_by n
decreasing_by
  · exact splitN_lt (by omega)
  · have := splitN_pos (n := n) (by omega); omega
theorem upL_none {leaf : List Int} {i n : Nat} {path : List (List Int)} (h : n < 2) : upL leaf i n path = leaf := by rw [upL, dif_pos h]
theorem upL_left {leaf : List Int} {i n : Nat} {path : List (List Int)} (h : 2 ≤ n) (hi : i < splitN n) : upL leaf i n path = nodeL (upL leaf i (splitN n) (path.take (path.length - 1))) (path.getD (path.length - 1) []) := by
  conv => lhs; rw [upL]
  rw [dif_neg (by omega), if_pos hi]
theorem upL_right {leaf : List Int} {i n : Nat} {path : List (List Int)} (h : 2 ≤ n) (hi : splitN n ≤ i) : upL leaf i n path = nodeL (path.getD (path.length - 1) []) (upL leaf (i - splitN n) (n - splitN n) (path.take (path.length - 1))) := by
  conv => lhs; rw [upL]
  rw [dif_neg (by omega), if_neg (by omega)]
/-- With one more on top: what is below does not see it. -/
theorem upR_below (leaf : List Int) (b : Bool) (lefts : List Bool) (path : List (List Int)) (m : Nat) : ∀ j, j ≤ lefts.length → j ≤ m → m ≤ path.length → upR leaf (b :: lefts) path j = upR leaf lefts (path.take m) j
  | 0, _, _, _ => rfl
  | j + 1, h, hm, hp => by
    rw [upR, upR, upR_below leaf b lefts path m j (by omega) (by omega) hp]
    congr 1
    · rw [List.length_cons, show lefts.length + 1 - 1 - j = (lefts.length - 1 - j) + 1 by omega, List.getD_cons_succ]
    · simp [List.getD, List.getElem?_take, show j < m by omega]
theorem upL_eq (leaf : List Int) : ∀ n i (path : List (List Int)), path.length = depthN i n → upL leaf i n path = upR leaf (leftsL i n) path path.length := fun n => by
  induction n using Nat.strongRecOn with
  | _ n ih =>
    intro i path hp
    by_cases h : 2 ≤ n
    · have h1 := splitN_pos h
      have h2 := splitN_lt h
      by_cases hi : i < splitN n
      · rw [depthN_left h hi] at hp
        have hl : (path.take (path.length - 1)).length = depthN i (splitN n) := by rw [List.length_take]; omega
        rw [upL_left h hi, ih _ h2 i _ hl, leftsL_left h hi]
        conv => rhs; rw [show path.length = (path.length - 1) + 1 by omega, upR]
        rw [upR_below leaf true _ path (path.length - 1) (path.length - 1) (by unfold depthN at hp; omega) (Nat.le_refl _) (by omega)]
        rw [hl, List.length_cons, show (leftsL i (splitN n)).length + 1 - 1 - (path.length - 1) = 0 by unfold depthN at hp; omega]
        rw [show path.length - 1 = depthN i (splitN n) by omega]
        rfl
      · have hi' : splitN n ≤ i := by omega
        rw [depthN_right h hi'] at hp
        have hl : (path.take (path.length - 1)).length = depthN (i - splitN n) (n - splitN n) := by rw [List.length_take]; omega
        rw [upL_right h hi', ih _ (by omega) (i - splitN n) _ hl, leftsL_right h hi']
        conv => rhs; rw [show path.length = (path.length - 1) + 1 by omega, upR]
        rw [upR_below leaf false _ path (path.length - 1) (path.length - 1) (by unfold depthN at hp; omega) (Nat.le_refl _) (by omega)]
        rw [hl, List.length_cons, show (leftsL (i - splitN n) (n - splitN n)).length + 1 - 1 - (path.length - 1) = 0 by unfold depthN at hp; omega]
        rw [show path.length - 1 = depthN (i - splitN n) (n - splitN n) by omega]
        rfl
    · rw [depthN_none (by omega)] at hp
      rw [upL_none (by omega), hp]
      rfl
theorem pathL_len : ∀ n i (l : List (List Int)), l.length = n → (pathL i l).length = depthN i n := fun n => by
  induction n using Nat.strongRecOn with
  | _ n ih =>
    intro i l hl
    subst hl
    by_cases h : 2 ≤ l.length
    · have h1 := splitN_pos h
      have h2 := splitN_lt h
      by_cases hi : i < splitN l.length
      · rw [pathL_left h hi, depthN_left h hi, List.length_append, ih _ h2 i _ (by rw [List.length_take]; omega)]
        simp only [List.length_singleton]; omega
      · rw [pathL_right h (by omega), depthN_right h (by omega), List.length_append, ih (l.length - splitN l.length) (by omega) _ _ (by rw [List.length_drop])]
        simp only [List.length_singleton]; omega
    · rw [pathL_none (by omega), depthN_none (by omega)]; rfl
/-- A leaf's path comes to the root. -/
theorem upL_path : ∀ n i (l : List (List Int)), l.length = n → i < n → upL (l.getD i []) i n (pathL i l) = rootL l := fun n => by
  induction n using Nat.strongRecOn with
  | _ n ih =>
    intro i l hl hin
    subst hl
    by_cases h : 2 ≤ l.length
    · have h1 := splitN_pos h
      have h2 := splitN_lt h
      by_cases hi : i < splitN l.length
      · have hi2 := ih (splitN l.length) h2 i (l.take (splitN l.length)) (by rw [List.length_take]; omega) hi
        rw [show (l.take (splitN l.length)).getD i [] = l.getD i [] by simp [List.getD, List.getElem?_take, hi]] at hi2
        rw [upL_left h hi, rootL_more h, pathL_left h hi]
        simp only [List.length_append, List.length_singleton, Nat.add_sub_cancel]
        rw [List.take_left' rfl, hi2]
        simp [List.getD]
      · have hi' : splitN l.length ≤ i := by omega
        have hi2 := ih (l.length - splitN l.length) (by omega) (i - splitN l.length) (l.drop (splitN l.length)) (by rw [List.length_drop]) (by omega)
        rw [show (l.drop (splitN l.length)).getD (i - splitN l.length) [] = l.getD i [] by simp [List.getD, show splitN l.length + (i - splitN l.length) = i by omega]] at hi2
        rw [upL_right h hi', rootL_more h, pathL_right h hi']
        simp only [List.length_append, List.length_singleton, Nat.add_sub_cancel]
        rw [List.take_left' rfl, hi2]
        simp [List.getD]
    · rw [upL_none (by omega), rootL_one (by omega), show i = 0 by omega]
theorem pathL_are : ∀ n i (l : List (List Int)), l.length = n → AreH l → AreH (pathL i l) := fun n => by
  induction n using Nat.strongRecOn with
  | _ n ih =>
    intro i l hl ha
    subst hl
    by_cases h : 2 ≤ l.length
    · have h1 := splitN_pos h
      have h2 := splitN_lt h
      by_cases hi : i < splitN l.length
      · rw [pathL_left h hi]
        exact (ih _ h2 i _ (by rw [List.length_take]; omega) (ha.take _)).append (fun x hx => by rw [List.mem_singleton.1 hx]; exact rootL_is (ha.drop _))
      · rw [pathL_right h (by omega)]
        exact (ih (l.length - splitN l.length) (by omega) _ _ (by rw [List.length_drop]) (ha.drop _)).append (fun x hx => by rw [List.mem_singleton.1 hx]; exact rootL_is (ha.take _))
    · rw [pathL_none (by omega)]
      exact fun _ hx => nomatch hx
theorem upL_is {leaf : List Int} (hl : leaf.length = 32 ∧ AreB leaf) (i n : Nat) (path : List (List Int)) : (upL leaf i n path).length = 32 ∧ AreB (upL leaf i n path) := by
  by_cases h : 2 ≤ n
  · by_cases hi : i < splitN n
    · rw [upL_left h hi]; exact ⟨nodeL_len _ _, nodeL_bytes _ _⟩
    · rw [upL_right h (by omega)]; exact ⟨nodeL_len _ _, nodeL_bytes _ _⟩
  · rw [upL_none (by omega)]; exact hl
end Go.Proofs.YtmbdldnldcgdjaaDoor
