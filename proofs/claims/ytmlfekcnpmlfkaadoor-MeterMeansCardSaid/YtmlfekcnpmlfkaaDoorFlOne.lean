/-
  A number by one.
-/
import Derived.Test.YtmlfekcnpmlfkaaDoorFlMean
namespace Go.Proofs.YtmlfekcnpmlfkaaDoor
set_option linter.unusedSimpArgs false
set_option linter.unusedVariables false
open Go.RowKit

/-- What a float stands for, however many places it is written with, is written as that float. -/
theorem nearest_exact (x t : Nat) (hx : x < W64) (h : rgB x < 9218868437227405312) :
    ∃ m k, Ieee.double.read x = .number (sgB x) m (-1074 + (k : Nat)) ∧ (m = 0 ∨ Ieee.double.nearest (sgB x) (m * 2 ^ t) (-1074 + (k : Int) - (t : Int)) = x) ∧ m < 9007199254740992 ∧ (m = 0 → rgB x = 0) := by
  have hword : ∀ s, s = sgB x → Ieee.double.word s (rgB x) = x := fun s hs => by
    subst hs
    unfold W64 at hx
    cases hs : sgB x
    · rw [word_false]; unfold sgB at hs; rw [beq_eq_false_iff_ne] at hs; unfold rgB; omega
    · rw [word_true]; unfold sgB at hs; rw [beq_iff_eq] at hs; unfold rgB; omega
  have key : ∀ (m k : Nat), m ≠ 0 → (m.log2 = 52 ∨ (m.log2 < 52 ∧ k = 0)) → k * 4503599627370496 + m = rgB x → Ieee.double.nearest (sgB x) (m * 2 ^ t) (-1074 + (k : Int) - (t : Int)) = x := by
    intro m k hm hl hr
    have hmt : m * 2 ^ t ≠ 0 := Nat.mul_ne_zero hm (Nat.ne_of_gt (Nat.two_pow_pos t))
    have hlog : (m * 2 ^ t).log2 = m.log2 + t := by
      have h1 := Nat.log2_self_le hm
      have h2 : m < 2 ^ (m.log2 + 1) := Nat.lt_log2_self
      have a1 : m.log2 + t ≤ (m * 2 ^ t).log2 := (Nat.le_log2 hmt).2 (by rw [Nat.pow_add]; exact Nat.mul_le_mul_right _ h1)
      have a2 : (m * 2 ^ t).log2 < m.log2 + 1 + t := (Nat.log2_lt hmt).2 (by rw [Nat.pow_add]; exact Nat.mul_lt_mul_of_pos_right h2 (Nat.two_pow_pos _))
      omega
    unfold Ieee.Format.nearest
    rw [if_neg hmt, hlog]
    dsimp only
    have hlast : max (-1074 + (k : Int) - (t : Int) + ((m.log2 + t : Nat) : Int) - ((52 : Nat) : Int)) (-1074) = -1074 + (k : Int) := by omega
    rw [show Ieee.double.fractionBits = 52 from rfl, show Ieee.double.binade = 4503599627370496 by decide, show Ieee.double.infRung = 9218868437227405312 by decide, lp_double, hlast,
      show (-1074 + (k : Int) - (t : Int) - (-1074 + (k : Int))).toNat = 0 by omega, Nat.shiftLeft_zero, show (-1074 + (k : Int) - (-1074 + (k : Int) - (t : Int))).toNat = t by omega, cut_exact _ _ m t _ rfl (by omega),
      show (-1074 + (k : Int) - -1074).toNat = k by omega, hr, Nat.min_eq_left (by omega)]
    exact hword _ rfl
  by_cases h1 : rgB x < 4503599627370496
  · refine ⟨rgB x, 0, ?_, ?_, by omega, id⟩
    · show (if rgB x < 4503599627370496 then _ else _) = _
      rw [if_pos h1, lp_double]
      rfl
    · by_cases hz : rgB x = 0
      · exact .inl hz
      · exact .inr (key _ 0 hz (.inr ⟨(Nat.log2_lt hz).2 (by omega), rfl⟩) (by omega))
  · have hlo : (4503599627370496 + rgB x % 4503599627370496).log2 = 52 := by
      have a1 : 52 ≤ (4503599627370496 + rgB x % 4503599627370496).log2 := (Nat.le_log2 (by omega)).2 (by omega)
      have a2 : (4503599627370496 + rgB x % 4503599627370496).log2 < 53 := (Nat.log2_lt (by omega)).2 (by omega)
      omega
    refine ⟨4503599627370496 + rgB x % 4503599627370496, rgB x / 4503599627370496 - 1, ?_, .inr (key _ _ (by omega) (.inl hlo) (by omega)), by omega, fun h => by omega⟩
    show (if rgB x < 4503599627370496 then _ else if rgB x < 9218868437227405312 then _ else _) = _
    rw [if_neg h1, if_pos h, lp_double]
    rfl
theorem one_word : floatOfInt .f64 1 = 4607182418800017408 := by kernel_rfl
theorem read_one : Ieee.double.read 4607182418800017408 = .number false 4503599627370496 (-52) := by decide
theorem log_one : Nat.log2 4503599627370496 = 52 := by decide
theorem div_one (x : Nat) (hx : x < W64) (hn : nanB x = false) : floatBits .quo .f64 x 4607182418800017408 = some x := by
  show ((Ieee.double.read x).quotient 54 (Ieee.double.read 4607182418800017408)).map Ieee.double.write = _
  rw [read_one]
  rcases Nat.lt_or_ge (rgB x) 9218868437227405312 with h | h
  · obtain ⟨m0, k0, hr0, _, hm0, _⟩ := nearest_exact x 0 hx h
    have hlm : m0.log2 ≤ 52 := by
      by_cases hz : m0 = 0
      · rw [hz]; decide
      · have := (Nat.log2_lt (k := 53) hz).2 (by omega); omega
    obtain ⟨t, ht⟩ : ∃ t, 54 + Nat.log2 4503599627370496 - m0.log2 = t + 52 := ⟨54 - m0.log2, by rw [log_one]; omega⟩
    obtain ⟨m, k, hr, hv, _, hz⟩ := nearest_exact x (t + 1) hx h
    have hmk : m0 = m ∧ k0 = k := by
      rw [hr0] at hr
      have h2 := Ieee.Datum.number.inj hr
      exact ⟨h2.2.1, by have := h2.2.2; omega⟩
    obtain ⟨rfl, rfl⟩ := hmk
    rw [hr]
    unfold Ieee.Datum.quotient
    dsimp only
    rw [if_neg (by decide), ht, Nat.shiftLeft_eq]
    have e1 : m0 * 2 ^ (t + 52) = m0 * 2 ^ t * 4503599627370496 := by rw [Nat.pow_add, ← Nat.mul_assoc]
    rw [e1, Nat.mul_div_cancel _ (by decide), Nat.mul_mod_left, show ((0 : Nat) != 0).toNat = 0 from rfl, Nat.add_zero, Bool.xor_false, show 2 * (m0 * 2 ^ t) = m0 * 2 ^ (t + 1) by rw [Nat.pow_succ, Nat.mul_comm 2, Nat.mul_assoc]]
    show some (Ieee.double.nearest (sgB x) (m0 * 2 ^ (t + 1)) _) = some x
    refine congrArg some ?_
    rw [show (-1074 + (k0 : Int) - -52 - ((t + 52 : Nat) : Int) - 1) = -1074 + (k0 : Int) - ((t + 1 : Nat) : Int) by omega]
    rcases hv with hv | hv
    · rw [hv, Nat.zero_mul, nearest_zero]
      have hrz := hz hv
      unfold W64 at hx
      unfold rgB at hrz
      cases hs : sgB x
      · rw [word_false]; unfold sgB at hs; rw [beq_eq_false_iff_ne] at hs; omega
      · rw [word_true]; unfold sgB at hs; rw [beq_iff_eq] at hs; omega
    · exact hv
  · have hi : rgB x = 9218868437227405312 := by unfold nanB at hn; have := of_decide_eq_false hn; omega
    rw [read_inf hi]
    show some (Ieee.double.word (sgB x ^^ false) Ieee.double.infRung) = some x
    refine congrArg some ?_
    rw [Bool.xor_false, show Ieee.double.infRung = 9218868437227405312 by decide]
    unfold W64 at hx
    unfold rgB at hi
    cases hs : sgB x
    · rw [word_false]; unfold sgB at hs; rw [beq_eq_false_iff_ne] at hs; omega
    · rw [word_true]; unfold sgB at hs; rw [beq_iff_eq] at hs; omega
/-- Numbers that are none count for nothing. -/
theorem msum_skip (l : List Nat) : msum (l.filter fun x => !nanB x) = msum l := by
  have h : ∀ (l : List Nat) (s : Option Nat × Nat), (l.filter fun x => !nanB x).foldl mstep s = l.foldl mstep s := by
    intro l
    induction l with
    | nil => intro s; rfl
    | cons x l ih =>
      intro s
      rw [List.filter_cons]
      cases hx : nanB x with
      | true =>
        rw [if_neg (by decide), List.foldl_cons, ih, show mstep s x = s by unfold mstep; rw [if_pos hx]]
      | false => rw [if_pos (by decide), List.foldl_cons, List.foldl_cons, ih]
  exact h l _
end Go.Proofs.YtmlfekcnpmlfkaaDoor
