/-
  Rates: what a division gives at the edges.
-/
import Derived.Test.YtmlfekcnpmlfkaaDoorFlTicks
namespace Go.Proofs.YtmlfekcnpmlfkaaDoor
set_option linter.unusedSimpArgs false
set_option linter.unusedVariables false
open Go.RowKit

theorem arith_nan {P : Program} (op : BinOp) (hop : op = .add ∨ op = .quo) (x y : Nat) (h : floatBits op .f64 x y = none) (w : World) :
    ∃ q, nanB q = true ∧ q < W64 ∧ ∀ t, (binOp op t (.float .f64 x) (.float .f64 y)).run P w = .ok (.float .f64 q) w.drew := by
  refine ⟨(Question.nanBits .f64 x y).cut (w.tape w.drawn (.nanBits .f64 x y)), ?_, ?_, fun t => ?_⟩
  · generalize w.tape w.drawn (.nanBits .f64 x y) = t
    show nanB ((t % 2) * 2 ^ 63 + 0x7ff0000000000000 + 1 + (t / 2) % (2 ^ 52 - 1)) = true
    unfold nanB rgB
    apply decide_eq_true
    have hu : (t / 2) % (2 ^ 52 - 1) < 4503599627370495 := Nat.mod_lt _ (by decide)
    generalize (t / 2) % (2 ^ 52 - 1) = u at *
    rcases (show t % 2 = 0 ∨ t % 2 = 1 by omega) with h2 | h2 <;> rw [h2] <;> omega
  · generalize w.tape w.drawn (.nanBits .f64 x y) = t
    show (t % 2) * 2 ^ 63 + 0x7ff0000000000000 + 1 + (t / 2) % (2 ^ 52 - 1) < W64
    unfold W64
    omega
  · rcases hop with rfl | rfl <;> (unfold floatBits at h; simp only at h; simp [binOp, Op.floatArith, h, Question.forced])
theorem cut_even_le (neg : Bool) (n d : Nat) : Ieee.Toward.even.cut neg n d ≤ n / 2 ^ (min d (n.log2 + 2)) + 1 := by
  unfold Ieee.Toward.cut
  rw [Nat.shiftLeft_eq, Nat.one_mul]
  dsimp only
  have : ∀ b : Bool, b.toNat ≤ 1 := fun b => by cases b <;> decide
  exact Nat.add_le_add_left (this _) _
theorem nearest_pos (C : Nat) (hC : 1 ≤ C) (hC2 : C ≤ 9223372036854775808) : ∃ r, (∀ neg, Ieee.double.nearest neg C 0 = Ieee.double.word neg r) ∧ 0 < r ∧ r < 9218868437227405312 := by
  have hC0 : C ≠ 0 := by omega
  have hL2 : C < 2 ^ (C.log2 + 1) := Nat.lt_log2_self
  have hL3 : C.log2 < 64 := (Nat.log2_lt hC0).2 (by omega)
  obtain ⟨L, hL⟩ : ∃ L, C.log2 = L := ⟨_, rfl⟩
  rw [hL] at hL2 hL3
  have hlast : max ((0 : Int) + (L : Nat) - ((52 : Nat) : Int)) (-1074) = (L : Int) - 52 := by omega
  obtain ⟨kept, hk, hkb⟩ : ∃ kept, (∀ neg, Ieee.Toward.even.cut neg (C <<< ((0 : Int) - ((L : Int) - 52)).toNat) ((L : Int) - 52 - 0).toNat = kept) ∧ kept ≤ 9007199254740993 := by
    refine ⟨Ieee.Toward.even.cut false (C <<< ((0 : Int) - ((L : Int) - 52)).toNat) ((L : Int) - 52 - 0).toNat, fun neg => rfl, ?_⟩
    by_cases h52 : L ≤ 52
    · rw [show ((L : Int) - 52 - 0).toNat = 0 by omega, cut_none, show ((0 : Int) - ((L : Int) - 52)).toNat = 52 - L by omega, Nat.shiftLeft_eq]
      have : 2 ^ (L + 1) * 2 ^ (52 - L) = 9007199254740992 := by rw [← Nat.pow_add, show L + 1 + (52 - L) = 53 by omega]
      have h2 : C * 2 ^ (52 - L) < 2 ^ (L + 1) * 2 ^ (52 - L) := Nat.mul_lt_mul_of_pos_right hL2 (Nat.two_pow_pos _)
      omega
    · obtain ⟨d, rfl⟩ : ∃ d, L = 52 + d := ⟨L - 52, by omega⟩
      rw [show ((0 : Int) - (((52 + d : Nat) : Int) - 52)).toNat = 0 by omega, show (((52 + d : Nat) : Int) - 52 - 0).toNat = d by omega, Nat.shiftLeft_zero]
      have h1 := cut_even_le false C d
      rw [hL, Nat.min_eq_left (by omega)] at h1
      have h2 : C / 2 ^ d < 9007199254740992 := by
        rw [Nat.div_lt_iff_lt_mul (Nat.two_pow_pos _), show (9007199254740992 : Nat) = 2 ^ 53 by decide, ← Nat.pow_add, show 53 + d = 52 + d + 1 by omega]
        exact hL2
      omega
  refine ⟨(L + 1022) * 4503599627370496 + kept, fun neg => ?_, by omega, by omega⟩
  unfold Ieee.Format.nearest
  rw [if_neg hC0, hL]
  dsimp only
  rw [show Ieee.double.fractionBits = 52 from rfl, show Ieee.double.binade = 4503599627370496 by decide, show Ieee.double.infRung = 9218868437227405312 by decide, lp_double, hlast, hk, show ((L : Int) - 52 - -1074).toNat = L + 1022 by omega]
  congr 1
  exact Nat.min_eq_left (by omega)
theorem word_true (r : Nat) : Ieee.double.word true r = 9223372036854775808 + r := by
  unfold Ieee.Format.word
  rw [if_pos rfl, show Ieee.double.signWeight = 9223372036854775808 by decide]
theorem word_false (r : Nat) : Ieee.double.word false r = r := by
  unfold Ieee.Format.word
  rw [if_neg (by decide)]
theorem floatOf_pos (n : Int) (h1 : 1 ≤ n) (h2 : n ≤ 9223372036854775807) : ∃ r, floatOfInt .f64 n = r ∧ floatOfInt .f64 (-n) = 9223372036854775808 + r ∧ 0 < r ∧ r < 9218868437227405312 := by
  obtain ⟨C, rfl⟩ : ∃ C : Nat, n = C := ⟨n.toNat, by omega⟩
  obtain ⟨r, hr, h0, h3⟩ := nearest_pos C (by omega) (by omega)
  refine ⟨r, ?_, ?_, h0, h3⟩
  · rw [floatOf_nat, hr, word_false]
  · show Ieee.double.nearest (decide (-(C : Int) < 0)) (-(C : Int)).natAbs 0 = _
    rw [decide_eq_true (by omega), Int.natAbs_neg, Int.natAbs_natCast, hr, word_true]
theorem read_zero : Ieee.double.read 0 = .number false 0 (-1074) := by decide
theorem read_pos {r : Nat} (h0 : 0 < r) (h1 : r < 9218868437227405312) (s : Bool) : ∃ m i, m ≠ 0 ∧ Ieee.double.read (if s then 9223372036854775808 + r else r) = .number s m i := by
  have hr : rgB (if s then 9223372036854775808 + r else r) = r := by unfold rgB; cases s <;> simp <;> omega
  have hs : sgB (if s then 9223372036854775808 + r else r) = s := by
    unfold sgB
    cases s
    · rw [if_neg (by decide), Nat.div_eq_of_lt (by omega)]; rfl
    · rw [if_pos rfl, show (9223372036854775808 + r) / 9223372036854775808 = 1 by omega]; rfl
  obtain ⟨m, k, hrd, hmk⟩ := read_num (x := if s then 9223372036854775808 + r else r) (by rw [hr]; exact h1)
  rw [hr] at hmk
  rw [hs] at hrd
  refine ⟨m, _, fun h => ?_, hrd⟩
  have := (valR_iff 0 r).1 h0
  rw [h, Nat.zero_mul] at hmk
  omega
theorem div_up {r : Nat} (h0 : 0 < r) (h1 : r < 9218868437227405312) : floatBits .quo .f64 r 0 = some 9218868437227405312 := by
  obtain ⟨m, i, hm, hr⟩ := read_pos h0 h1 false
  rw [if_neg (by decide)] at hr
  show ((Ieee.double.read r).quotient 54 (Ieee.double.read 0)).map Ieee.double.write = _
  rw [hr, read_zero]
  unfold Ieee.Datum.quotient
  dsimp only
  rw [if_pos rfl, if_neg hm]
  decide
theorem div_down {r : Nat} (h0 : 0 < r) (h1 : r < 9218868437227405312) : floatBits .quo .f64 (9223372036854775808 + r) 0 = some 18442240474082181120 := by
  obtain ⟨m, i, hm, hr⟩ := read_pos h0 h1 true
  rw [if_pos rfl] at hr
  show ((Ieee.double.read (9223372036854775808 + r)).quotient 54 (Ieee.double.read 0)).map Ieee.double.write = _
  rw [hr, read_zero]
  unfold Ieee.Datum.quotient
  dsimp only
  rw [if_pos rfl, if_neg hm]
  decide
theorem div_none : floatBits .quo .f64 0 0 = none := by decide
theorem nearest_zero (neg : Bool) (i : Int) : Ieee.double.nearest neg 0 i = Ieee.double.word neg 0 := by
  unfold Ieee.Format.nearest
  rw [if_pos rfl]
theorem div_zero {r : Nat} (h0 : 0 < r) (h1 : r < 9218868437227405312) : floatBits .quo .f64 0 (9223372036854775808 + r) = some 9223372036854775808 := by
  obtain ⟨m, i, hm, hr⟩ := read_pos h0 h1 true
  rw [if_pos rfl] at hr
  show ((Ieee.double.read 0).quotient 54 (Ieee.double.read (9223372036854775808 + r))).map Ieee.double.write = _
  rw [hr, read_zero]
  unfold Ieee.Datum.quotient
  dsimp only
  rw [if_neg hm, Nat.zero_shiftLeft, Nat.zero_div, Nat.zero_mod]
  show some (Ieee.double.nearest _ 0 _) = _
  rw [nearest_zero]
  decide
end Go.Proofs.YtmlfekcnpmlfkaaDoor
