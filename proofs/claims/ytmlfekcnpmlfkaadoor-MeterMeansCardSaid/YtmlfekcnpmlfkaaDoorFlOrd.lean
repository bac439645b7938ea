/-
  The order of floats, as plain data: a number's key is its rung, with its sign. No program in sight.
-/
import Derived.Test.YtmlfekcnpmlfkaaDoorFt9
namespace Go.Proofs.YtmlfekcnpmlfkaaDoor
set_option linter.unusedSimpArgs false
set_option linter.unusedVariables false
open Go.RowKit

def sgB (b : Nat) : Bool := b / 9223372036854775808 % 2 == 1
def rgB (b : Nat) : Nat := b % 9223372036854775808
def nanB (b : Nat) : Bool := decide (9218868437227405312 < rgB b)
def keyB (b : Nat) : Int := if sgB b then -(rgB b : Int) else (rgB b : Int)
/-- The number of a rung, in units of the least place. -/
def valR (r : Nat) : Nat := if r < 4503599627370496 then r else (4503599627370496 + r % 4503599627370496) * 2 ^ (r / 4503599627370496 - 1)
theorem valR_step (r : Nat) : valR r < valR (r + 1) := by
  unfold valR
  by_cases h1 : r + 1 < 4503599627370496
  · rw [if_pos (by omega), if_pos h1]; omega
  · by_cases h2 : r < 4503599627370496
    · have : r = 4503599627370495 := by omega
      subst this
      decide
    · rw [if_neg h2, if_neg h1]
      by_cases h3 : (r + 1) % 4503599627370496 = 0
      · have e1 : (r + 1) / 4503599627370496 - 1 = (r / 4503599627370496 - 1) + 1 := by omega
        have e2 : r % 4503599627370496 = 4503599627370495 := by omega
        rw [e1, h3, e2, Nat.pow_succ]
        have := Nat.two_pow_pos (r / 4503599627370496 - 1)
        generalize 2 ^ (r / 4503599627370496 - 1) = q at *
        omega
      · have e1 : (r + 1) / 4503599627370496 - 1 = r / 4503599627370496 - 1 := by omega
        have e2 : (r + 1) % 4503599627370496 = r % 4503599627370496 + 1 := by omega
        rw [e1, e2]
        exact Nat.mul_lt_mul_of_pos_right (by omega) (Nat.two_pow_pos _)
theorem valR_lt {r s : Nat} (h : r < s) : valR r < valR s := by
  induction s with
  | zero => omega
  | succ s ih =>
    rcases Nat.lt_or_ge r s with h1 | h1
    · exact Nat.lt_trans (ih h1) (valR_step s)
    · have : r = s := by omega
      subst this
      exact valR_step r
theorem valR_iff (r s : Nat) : (r < s ↔ valR r < valR s) := by
  refine ⟨valR_lt, fun h => ?_⟩
  rcases Nat.lt_or_ge r s with h1 | h1
  · exact h1
  · rcases Nat.lt_or_ge s r with h2 | h2
    · have := valR_lt h2; omega
    · have : r = s := by omega
      subst this; omega
theorem valR_zero : valR 0 = 0 := rfl
theorem lp_double : Ieee.double.leastPlace = -1074 := by decide
theorem read_num {x : Nat} (h : rgB x < 9218868437227405312) : ∃ m k, Ieee.double.read x = .number (sgB x) m (-1074 + (k : Nat)) ∧ m * 2 ^ k = valR (rgB x) := by
  by_cases h1 : rgB x < 4503599627370496
  · refine ⟨rgB x, 0, ?_, ?_⟩
    · show (if rgB x < 4503599627370496 then _ else _) = _
      rw [if_pos h1, lp_double]
      rfl
    · unfold valR; rw [if_pos h1]; omega
  · refine ⟨4503599627370496 + rgB x % 4503599627370496, rgB x / 4503599627370496 - 1, ?_, ?_⟩
    · show (if rgB x < 4503599627370496 then _ else if rgB x < 9218868437227405312 then _ else _) = _
      rw [if_neg h1, if_pos h, lp_double]
      rfl
    · unfold valR; rw [if_neg h1]
theorem read_inf {x : Nat} (h : rgB x = 9218868437227405312) : Ieee.double.read x = .infinity (sgB x) := by
  show (if rgB x < 4503599627370496 then _ else if rgB x < 9218868437227405312 then _ else if rgB x = 9218868437227405312 then _ else _) = _
  rw [if_neg (by omega), if_neg (by omega), if_pos h]
  rfl
theorem read_nan {x : Nat} (h : 9218868437227405312 < rgB x) : ∃ t, Ieee.double.read x = .nan (sgB x) t := by
  refine ⟨rgB x - 9218868437227405312, ?_⟩
  show (if rgB x < 4503599627370496 then _ else if rgB x < 9218868437227405312 then _ else if rgB x = 9218868437227405312 then _ else _) = _
  rw [if_neg (by omega), if_neg (by omega), if_neg (by omega)]
  rfl
theorem cmp_congr {a b c d : Int} (h1 : a < b ↔ c < d) (h2 : a = b ↔ c = d) : compare a b = compare c d := by
  show compareOfLessAndEq a b = compareOfLessAndEq c d
  unfold compareOfLessAndEq
  by_cases h : a < b
  · rw [if_pos h, if_pos (h1.1 h)]
  · rw [if_neg h, if_neg (fun h' => h (h1.2 h'))]
    by_cases h' : a = b
    · rw [if_pos h', if_pos (h2.1 h')]
    · rw [if_neg h', if_neg (fun h'' => h' (h2.2 h''))]
theorem cmp_lt {a b : Int} (h : a < b) : compare a b = .lt := by
  show compareOfLessAndEq a b = _
  unfold compareOfLessAndEq
  rw [if_pos h]
theorem cmp_gt {a b : Int} (h : b < a) : compare a b = .gt := by
  show compareOfLessAndEq a b = _
  unfold compareOfLessAndEq
  rw [if_neg (by omega), if_neg (by omega)]
theorem cmp_eq {a b : Int} (h : a = b) : compare a b = .eq := by
  show compareOfLessAndEq a b = _
  unfold compareOfLessAndEq
  rw [if_neg (by omega), if_pos h]
/-- A datum's number, in units of the least place. -/
def sgV (s : Bool) (v : Nat) : Int := if s then -(v : Int) else (v : Int)
theorem signed_mul (s : Bool) (m k q : Nat) (h : q ≤ k) : Ieee.signed s m (k - q) * ((2 ^ q : Nat) : Int) = sgV s (m * 2 ^ k) := by
  have e : m * 2 ^ (k - q) * 2 ^ q = m * 2 ^ k := by rw [Nat.mul_assoc, ← Nat.pow_add, show k - q + q = k by omega]
  unfold Ieee.signed sgV
  rw [Nat.shiftLeft_eq]
  split
  · rw [Int.neg_mul, ← Int.natCast_mul, e]
  · rw [← Int.natCast_mul, e]
theorem order_num (s t : Bool) (m n k l : Nat) : Ieee.Datum.order (.number s m (-1074 + (k : Nat))) (.number t n (-1074 + (l : Nat))) = some (compare (sgV s (m * 2 ^ k)) (sgV t (n * 2 ^ l))) := by
  show some (compare _ _) = _
  have e1 : ((-1074 + (k : Int)) - min (-1074 + (k : Int)) (-1074 + (l : Int))).toNat = k - min k l := by omega
  have e2 : ((-1074 + (l : Int)) - min (-1074 + (k : Int)) (-1074 + (l : Int))).toNat = l - min k l := by omega
  rw [e1, e2, ← signed_mul s m k (min k l) (by omega), ← signed_mul t n l (min k l) (by omega)]
  have hp : (0 : Int) < ((2 ^ min k l : Nat) : Int) := by have := Nat.two_pow_pos (min k l); omega
  generalize Ieee.signed s m (k - min k l) = a
  generalize Ieee.signed t n (l - min k l) = b
  generalize ((2 ^ min k l : Nat) : Int) = c at *
  congr 1
  refine cmp_congr ⟨fun h => Int.mul_lt_mul_of_pos_right h hp, fun h => Int.lt_of_mul_lt_mul_right h (by omega)⟩ ⟨fun h => by rw [h], fun h => Int.eq_of_mul_eq_mul_right (by omega) h⟩
theorem sgV_key (x y : Nat) (s t : Bool) : (sgV s (valR x) < sgV t (valR y) ↔ sgV s x < sgV t y) ∧ (sgV s (valR x) = sgV t (valR y) ↔ sgV s x = sgV t y) := by
  have h1 := valR_iff x y
  have h2 := valR_iff y x
  have h3 := valR_iff 0 x
  have h4 := valR_iff 0 y
  rw [valR_zero] at h3 h4
  unfold sgV
  cases s <;> cases t <;> simp only [if_true, if_false, Bool.false_eq_true] <;> constructor <;> constructor <;> intro h <;> omega
theorem key_eq (x : Nat) : keyB x = sgV (sgB x) (rgB x) := rfl
theorem rg_lt (x : Nat) : rgB x < 9223372036854775808 := Nat.mod_lt _ (by decide)
/-- How two floats stand to each other. -/
theorem order_key (x y : Nat) : Ieee.double.order x y = if nanB x || nanB y then none else some (compare (keyB x) (keyB y)) := by
  unfold Ieee.Format.order
  rcases Nat.lt_or_ge 9218868437227405312 (rgB x) with hx | hx
  · obtain ⟨t, ht⟩ := read_nan hx
    rw [ht, show nanB x = true from decide_eq_true hx, Bool.true_or, if_pos rfl]
    rfl
  rcases Nat.lt_or_ge 9218868437227405312 (rgB y) with hy | hy
  · obtain ⟨t, ht⟩ := read_nan hy
    rw [ht, show nanB y = true from decide_eq_true hy, Bool.or_true, if_pos rfl]
    cases Ieee.double.read x <;> rfl
  rw [show nanB x = false from decide_eq_false (by omega), show nanB y = false from decide_eq_false (by omega), Bool.or_self, if_neg (by decide)]
  rcases Nat.lt_or_ge (rgB x) 9218868437227405312 with hx2 | hx2
  · obtain ⟨m, k, hr, hv⟩ := read_num hx2
    rcases Nat.lt_or_ge (rgB y) 9218868437227405312 with hy2 | hy2
    · obtain ⟨n, l, hr2, hv2⟩ := read_num hy2
      rw [hr, hr2, order_num, hv, hv2, key_eq, key_eq]
      congr 1
      exact cmp_congr (sgV_key _ _ _ _).1 (sgV_key _ _ _ _).2
    · rw [hr, read_inf (show rgB y = 9218868437227405312 by omega)]
      show some (if sgB y then Ordering.gt else Ordering.lt) = _
      congr 1
      rw [key_eq, key_eq]
      unfold sgV
      cases sgB y <;> cases sgB x <;> simp only [if_true, if_false, Bool.false_eq_true] <;> first | exact (cmp_lt (by omega)).symm | exact (cmp_gt (by omega)).symm
  · rw [read_inf (show rgB x = 9218868437227405312 by omega)]
    rcases Nat.lt_or_ge (rgB y) 9218868437227405312 with hy2 | hy2
    · obtain ⟨n, l, hr2, hv2⟩ := read_num hy2
      rw [hr2]
      show some (if sgB x then Ordering.lt else Ordering.gt) = _
      congr 1
      rw [key_eq, key_eq]
      unfold sgV
      cases sgB x <;> cases sgB y <;> simp only [if_true, if_false, Bool.false_eq_true] <;> first | exact (cmp_lt (by omega)).symm | exact (cmp_gt (by omega)).symm
    · rw [read_inf (show rgB y = 9218868437227405312 by omega)]
      show some (compare (sgB y).toNat (sgB x).toNat) = _
      congr 1
      rw [key_eq, key_eq, show rgB x = 9218868437227405312 by omega, show rgB y = 9218868437227405312 by omega]
      cases sgB x <;> cases sgB y <;> decide
/-- Its rank: none ahead of all, -0 ahead of 0. -/
def rkB (b : Nat) : Int := if nanB b then -9223372036854775809 else if sgB b then -(rgB b : Int) - 1 else (rgB b : Int)
theorem rk_inj {x y : Nat} (hx : x < W64) (hy : y < W64) (h : rkB x = rkB y) (hn : nanB x = false ∨ nanB y = false) : x = y := by
  unfold rkB nanB sgB rgB at *
  unfold W64 at hx hy
  simp only [decide_eq_true_eq, decide_eq_false_iff_not, beq_iff_eq] at *
  split at h <;> split at h <;> (try split at h) <;> (try split at h) <;> omega
end Go.Proofs.YtmlfekcnpmlfkaaDoor
