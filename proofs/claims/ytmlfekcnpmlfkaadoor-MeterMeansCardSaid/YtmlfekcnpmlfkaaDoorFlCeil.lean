/-
  Whole numbers as floats, and a float up to a whole one. No program in sight.
-/
import Derived.Test.YtmlfekcnpmlfkaaDoorFlOrder
namespace Go.Proofs.YtmlfekcnpmlfkaaDoor
set_option linter.unusedSimpArgs false
set_option linter.unusedVariables false
open Go.RowKit

/-- The places below the point. -/
def lowP : Nat := 1074
theorem lowP_eq : lowP = 1074 := rfl
attribute [irreducible] lowP
theorem cut_none (way : Ieee.Toward) (neg : Bool) (n : Nat) : way.cut neg n 0 = n := by
  unfold Ieee.Toward.cut
  rw [Nat.zero_min, show 1 <<< 0 = 1 from rfl]
  dsimp only
  rw [Nat.div_one, Nat.mod_one]
  cases way <;> simp
theorem cut_exact (way : Ieee.Toward) (neg : Bool) (q d n : Nat) (hn : n = q * 2 ^ d) (hq : 1 ≤ q) : way.cut neg n d = q := by
  have hpos := Nat.two_pow_pos d
  have hle : 2 ^ d ≤ n := by rw [hn]; exact Nat.le_mul_of_pos_left _ hq
  have hl : d ≤ n.log2 := (Nat.le_log2 (by omega)).2 hle
  unfold Ieee.Toward.cut
  rw [Nat.min_eq_left (by omega), Nat.shiftLeft_eq, Nat.one_mul]
  dsimp only
  rw [hn, Nat.mul_div_cancel _ hpos, Nat.mul_mod_left]
  cases way <;> simp <;> (try omega)
theorem cut_up (n D : Nat) (hn : 1 ≤ n) : 1 ≤ Ieee.Toward.up.cut false n D ∧ n ≤ Ieee.Toward.up.cut false n D * 2 ^ D ∧ (Ieee.Toward.up.cut false n D - 1) * 2 ^ D < n := by
  have hpos := Nat.two_pow_pos D
  by_cases h : D ≤ n.log2 + 2
  · have e : Ieee.Toward.up.cut false n D = n / 2 ^ D + (n % 2 ^ D != 0).toNat := by
      unfold Ieee.Toward.cut
      rw [Nat.min_eq_left h, Nat.shiftLeft_eq, Nat.one_mul]
      rfl
    rw [e]
    have hd := Nat.div_add_mod n (2 ^ D)
    have hm := Nat.mod_lt n hpos
    generalize 2 ^ D = G at *
    generalize hQ : n / G = Q at *
    by_cases h0 : n % G = 0
    · rw [h0, show ((0 : Nat) != 0).toNat = 0 from rfl, Nat.add_zero]
      rw [h0, Nat.add_zero] at hd
      have hq1 : 1 ≤ Q := by
        rcases Nat.eq_zero_or_pos Q with h1 | h1
        · rw [h1, Nat.mul_zero] at hd; omega
        · exact h1
      obtain ⟨q, rfl⟩ : ∃ q, Q = q + 1 := ⟨Q - 1, by omega⟩
      rw [Nat.mul_comm] at hd
      refine ⟨hq1, by omega, ?_⟩
      rw [Nat.add_sub_cancel]
      rw [Nat.add_mul] at hd
      omega
    · rw [show (n % G != 0).toNat = 1 by rw [show (n % G != 0) = true from bne_iff_ne.2 h0]; rfl, Nat.add_sub_cancel, Nat.add_mul]
      rw [Nat.mul_comm] at hd
      omega
  · have hlt : n < 2 ^ (n.log2 + 1) := Nat.lt_log2_self
    have h2 : n < 2 ^ (n.log2 + 2) := Nat.lt_of_lt_of_le hlt (Nat.pow_le_pow_right (by decide) (by omega))
    have h3 : n < 2 ^ D := Nat.lt_of_lt_of_le hlt (Nat.pow_le_pow_right (by decide) (by omega))
    have e : Ieee.Toward.up.cut false n D = 1 := by
      unfold Ieee.Toward.cut
      rw [Nat.min_eq_right (by omega), Nat.shiftLeft_eq, Nat.one_mul]
      dsimp only
      rw [Nat.div_eq_of_lt h2, Nat.mod_eq_of_lt h2, show (n != 0) = true from bne_iff_ne.2 (by omega)]
      rfl
    rw [e]
    omega
theorem read_num2 {x : Nat} (h : rgB x < 9218868437227405312) : ∃ m k, Ieee.double.read x = .number (sgB x) m (-1074 + (k : Nat)) ∧ m * 2 ^ k = valR (rgB x) ∧ m < 9007199254740992 := by
  by_cases h1 : rgB x < 4503599627370496
  · refine ⟨rgB x, 0, ?_, ?_, by omega⟩
    · show (if rgB x < 4503599627370496 then _ else _) = _
      rw [if_pos h1, lp_double]
      rfl
    · unfold valR; rw [if_pos h1]; omega
  · refine ⟨4503599627370496 + rgB x % 4503599627370496, rgB x / 4503599627370496 - 1, ?_, ?_, by omega⟩
    · show (if rgB x < 4503599627370496 then _ else if rgB x < 9218868437227405312 then _ else _) = _
      rw [if_neg h1, if_pos h, lp_double]
      rfl
    · unfold valR; rw [if_neg h1]
theorem valR_of (e kept : Nat) (h1 : 4503599627370496 ≤ kept) (h2 : kept < 9007199254740992) : valR (e * 4503599627370496 + kept) = kept * 2 ^ e := by
  unfold valR
  rw [if_neg (by omega), show (e * 4503599627370496 + kept) % 4503599627370496 = kept - 4503599627370496 by omega, show (e * 4503599627370496 + kept) / 4503599627370496 - 1 = e by omega, show 4503599627370496 + (kept - 4503599627370496) = kept by omega]
/-- A whole number that a float can be. -/
theorem nearest_int (C m j : Nat) (hC : 1 ≤ C) (hm : C = m * 2 ^ j) (hm2 : m < 9007199254740992) (hC2 : C ≤ 9223372036854775808) :
    Ieee.double.nearest false C 0 < 9218868437227405312 ∧ valR (Ieee.double.nearest false C 0) = C * 2 ^ lowP := by
  have hC0 : C ≠ 0 := by omega
  have hL1 := Nat.log2_self_le hC0
  have hL2 : C < 2 ^ (C.log2 + 1) := Nat.lt_log2_self
  have hL3 : C.log2 < 64 := (Nat.log2_lt hC0).2 (by omega)
  obtain ⟨L, hL⟩ : ∃ L, C.log2 = L := ⟨_, rfl⟩
  rw [hL] at hL1 hL2 hL3
  have hlast : max ((0 : Int) + (L : Nat) - ((52 : Nat) : Int)) (-1074) = (L : Int) - 52 := by omega
  obtain ⟨kept, hk, hkb, hkb2, hkv⟩ : ∃ kept, Ieee.Toward.even.cut false (C <<< ((0 : Int) - ((L : Int) - 52)).toNat) ((L : Int) - 52 - 0).toNat = kept ∧ 4503599627370496 ≤ kept ∧ kept < 9007199254740992 ∧ kept * 2 ^ (L + 1022) = C * 2 ^ lowP := by
    by_cases h52 : L ≤ 52
    · refine ⟨C * 2 ^ (52 - L), ?_, ?_, ?_, ?_⟩
      · rw [show ((L : Int) - 52 - 0).toNat = 0 by omega, cut_none, show ((0 : Int) - ((L : Int) - 52)).toNat = 52 - L by omega, Nat.shiftLeft_eq]
      · have : 2 ^ L * 2 ^ (52 - L) = 4503599627370496 := by rw [← Nat.pow_add, show L + (52 - L) = 52 by omega]
        rw [← this]; exact Nat.mul_le_mul_right _ hL1
      · have : 2 ^ (L + 1) * 2 ^ (52 - L) = 9007199254740992 := by rw [← Nat.pow_add, show L + 1 + (52 - L) = 53 by omega]
        rw [← this]; exact Nat.mul_lt_mul_of_pos_right hL2 (Nat.two_pow_pos _)
      · rw [Nat.mul_assoc, ← Nat.pow_add, show 52 - L + (L + 1022) = lowP by rw [lowP_eq]; omega]
    · obtain ⟨d, rfl⟩ : ∃ d, L = 52 + d := ⟨L - 52, by omega⟩
      have hdj : d ≤ j := by
        rcases Nat.lt_or_ge j d with h | h
        · exfalso
          have h1 : m * 2 ^ j < 2 ^ 53 * 2 ^ j := Nat.mul_lt_mul_of_pos_right (by omega) (Nat.two_pow_pos _)
          rw [← Nat.pow_add, ← hm] at h1
          have h2 : 2 ^ (53 + j) ≤ 2 ^ (52 + d) := Nat.pow_le_pow_right (by decide) (by omega)
          omega
        · exact h
      obtain ⟨i, rfl⟩ : ∃ i, j = d + i := ⟨j - d, by omega⟩
      have hCd : C = m * 2 ^ i * 2 ^ d := by rw [hm, Nat.pow_add, Nat.mul_assoc, Nat.mul_comm (2 ^ d)]
      have hq : 1 ≤ m * 2 ^ i := by
        rcases Nat.eq_zero_or_pos (m * 2 ^ i) with h | h
        · rw [h, Nat.zero_mul] at hCd; omega
        · exact h
      refine ⟨m * 2 ^ i, ?_, ?_, ?_, ?_⟩
      · rw [show ((0 : Int) - (((52 + d : Nat) : Int) - 52)).toNat = 0 by omega, show (((52 + d : Nat) : Int) - 52 - 0).toNat = d by omega, Nat.shiftLeft_zero]
        exact cut_exact _ _ _ _ _ hCd hq
      · rw [hCd, Nat.pow_add] at hL1
        exact Nat.le_of_mul_le_mul_right hL1 (Nat.two_pow_pos d)
      · rw [hCd, show 52 + d + 1 = 53 + d by omega, Nat.pow_add] at hL2
        exact Nat.lt_of_mul_lt_mul_right hL2
      · rw [hCd, Nat.mul_assoc, Nat.mul_assoc, Nat.mul_assoc, ← Nat.pow_add, ← Nat.pow_add, ← Nat.pow_add]
        rw [show i + (52 + d + 1022) = i + (d + lowP) by rw [lowP_eq]; omega]
  have e : Ieee.double.nearest false C 0 = (L + 1022) * 4503599627370496 + kept := by
    unfold Ieee.Format.nearest
    rw [if_neg hC0, hL]
    dsimp only
    rw [show Ieee.double.fractionBits = 52 from rfl, show Ieee.double.binade = 4503599627370496 by decide, show Ieee.double.infRung = 9218868437227405312 by decide, lp_double, hlast, hk, show ((L : Int) - 52 - -1074).toNat = L + 1022 by omega]
    unfold Ieee.Format.word
    rw [if_neg (by decide)]
    exact Nat.min_eq_left (by omega)
  rw [e]
  refine ⟨by omega, ?_⟩
  rw [valR_of _ _ hkb hkb2, hkv]
theorem pow_split {k : Nat} (h : lowP ≤ k) (m : Nat) : m * 2 ^ k = m * 2 ^ (k - lowP) * 2 ^ lowP := by
  rw [Nat.mul_assoc, ← Nat.pow_add, Nat.sub_add_cancel h]
theorem toInt_of (b C : Nat) (h : rgB b < 9218868437227405312) (hs : sgB b = false) (hv : valR (rgB b) = C * 2 ^ lowP) (hC : 1 ≤ C) : (Ieee.double.read b).toInt .zero = some (C : Int) := by
  obtain ⟨m, k, hr, hmk, _⟩ := read_num2 h
  rw [hr, hs]
  rw [hv] at hmk
  have hl := lowP_eq
  have e : Ieee.Toward.zero.cut false (m <<< (-1074 + (k : Int)).toNat) (-(-1074 + (k : Int))).toNat = C := by
    by_cases hk : lowP ≤ k
    · rw [show (-(-1074 + (k : Int))).toNat = 0 by omega, cut_none, show (-1074 + (k : Int)).toNat = k - lowP by omega, Nat.shiftLeft_eq]
      rw [pow_split hk] at hmk
      exact Nat.eq_of_mul_eq_mul_right (Nat.two_pow_pos lowP) hmk
    · rw [show (-1074 + (k : Int)).toNat = 0 by omega, Nat.shiftLeft_zero, show (-(-1074 + (k : Int))).toNat = lowP - k by omega]
      refine cut_exact _ _ C _ _ ?_ hC
      have h2 : C * 2 ^ lowP = C * 2 ^ (lowP - k) * 2 ^ k := by rw [Nat.mul_assoc, ← Nat.pow_add, Nat.sub_add_cancel (by omega)]
      rw [h2] at hmk
      exact Nat.eq_of_mul_eq_mul_right (Nat.two_pow_pos k) hmk
  show some (Ieee.signed false (Ieee.Toward.zero.cut false (m <<< (-1074 + (k : Int)).toNat) (-(-1074 + (k : Int))).toNat) 0) = some (C : Int)
  rw [e]
  unfold Ieee.signed
  rw [if_neg (by decide), Nat.shiftLeft_zero]
theorem key_pos {a : Nat} (h : 0 < keyB a) : sgB a = false ∧ 0 < rgB a ∧ keyB a = (rgB a : Int) := by
  unfold keyB at *
  cases hs : sgB a
  · rw [hs, if_neg (by decide)] at h
    exact ⟨rfl, by omega, by rw [if_neg (by decide)]⟩
  · rw [hs, if_pos rfl] at h
    omega
theorem ceil_spec (a : Nat) (h0 : 0 < keyB a) (hn : rgB a < 9218868437227405312) :
    ∃ C m j, ceilB a = Ieee.double.nearest false C 0 ∧ 1 ≤ C ∧ C = m * 2 ^ j ∧ m < 9007199254740992 ∧ valR (rgB a) ≤ C * 2 ^ lowP ∧ (C - 1) * 2 ^ lowP < valR (rgB a) := by
  obtain ⟨hs, hr0, _⟩ := key_pos h0
  obtain ⟨m, k, hr, hmk, hm⟩ := read_num2 hn
  have hvp : 0 < valR (rgB a) := (valR_iff 0 (rgB a)).1 hr0
  have hm1 : 1 ≤ m := by
    rcases Nat.eq_zero_or_pos m with h | h
    · rw [h, Nat.zero_mul] at hmk; omega
    · exact h
  have hl := lowP_eq
  have e : ceilB a = Ieee.double.nearest false (Ieee.Toward.up.cut false (m <<< (-1074 + (k : Int)).toNat) (-(-1074 + (k : Int))).toNat) 0 := by
    unfold ceilB
    rw [hr, hs]
    rfl
  rw [e, ← hmk]
  by_cases hk : lowP ≤ k
  · refine ⟨m * 2 ^ (k - lowP), m, k - lowP, ?_, Nat.mul_pos hm1 (Nat.two_pow_pos _), rfl, hm, ?_, ?_⟩
    · rw [show (-(-1074 + (k : Int))).toNat = 0 by omega, cut_none, show (-1074 + (k : Int)).toNat = k - lowP by omega, Nat.shiftLeft_eq]
    · rw [pow_split hk]
      exact Nat.le_refl _
    · rw [pow_split hk]
      have hp := Nat.mul_pos hm1 (Nat.two_pow_pos (k - lowP))
      exact Nat.mul_lt_mul_of_pos_right (by omega) (Nat.two_pow_pos _)
  · obtain ⟨D, hD⟩ : ∃ D, D = lowP - k := ⟨_, rfl⟩
    obtain ⟨c1, c2, c3⟩ := cut_up m D hm1
    rw [show (-1074 + (k : Int)).toNat = 0 by omega, Nat.shiftLeft_zero, show (-(-1074 + (k : Int))).toNat = D by omega]
    obtain ⟨C, hC⟩ : ∃ C, Ieee.Toward.up.cut false m D = C := ⟨_, rfl⟩
    rw [hC] at c1 c2 c3 ⊢
    have hpw : ∀ x : Nat, x * 2 ^ lowP = x * 2 ^ D * 2 ^ k := fun x => by rw [Nat.mul_assoc, ← Nat.pow_add, show D + k = lowP by omega]
    refine ⟨C, C, 0, rfl, c1, by omega, ?_, ?_, ?_⟩
    · have h2 : 2 ≤ 2 ^ D := by
        obtain ⟨q, rfl⟩ : ∃ q, D = q + 1 := ⟨D - 1, by omega⟩
        rw [Nat.pow_succ]
        have := Nat.two_pow_pos q
        omega
      have h3 : (C - 1) * 2 ≤ (C - 1) * 2 ^ D := Nat.mul_le_mul_left _ h2
      omega
    · rw [hpw]
      exact Nat.mul_le_mul_right _ c2
    · rw [hpw]
      exact Nat.mul_lt_mul_of_pos_right c3 (Nat.two_pow_pos _)
theorem key_of_lt {r : Nat} (h : r < 9223372036854775808) : rgB r = r ∧ sgB r = false ∧ keyB r = (r : Int) := by
  have h1 : rgB r = r := Nat.mod_eq_of_lt h
  have h2 : sgB r = false := by unfold sgB; rw [Nat.div_eq_of_lt h]; rfl
  exact ⟨h1, h2, by unfold keyB; rw [h2, h1, if_neg (by decide)]⟩
theorem floatOf_nat (C : Nat) : floatOfInt .f64 (C : Int) = Ieee.double.nearest false C 0 := by
  show Ieee.double.nearest (decide ((C : Int) < 0)) ((C : Int)).natAbs 0 = _
  rw [decide_eq_false (by omega), Int.natAbs_natCast]
theorem val62 : valR 4886405595696988160 = 4611686018427387904 * 2 ^ lowP := by
  obtain ⟨e, he⟩ : ∃ e, e = 10 + lowP := ⟨_, rfl⟩
  have h := valR_of e 4503599627370496 (by decide) (by decide)
  have hl := lowP_eq
  rw [show e * 4503599627370496 + 4503599627370496 = 4886405595696988160 by omega] at h
  rw [h, he, Nat.pow_add, ← Nat.mul_assoc]
/-- How many ticks. -/
theorem ticks_spec (a : Nat) (h0 : 0 < keyB a) (h1 : keyB a < 4886405595696988160) :
    ∃ C : Nat, 1 ≤ C ∧ C ≤ 4611686018427387904 ∧ floatToIntVal .f64 (ceilB a) .i64 = some (C : Int) ∧ nanB (floatOfInt .f64 (C : Int)) = false ∧ keyB a ≤ keyB (floatOfInt .f64 (C : Int)) ∧
      (C ≤ 9007199254740992 → nanB (floatOfInt .f64 ((C - 1 : Nat) : Int)) = false ∧ keyB (floatOfInt .f64 ((C - 1 : Nat) : Int)) < keyB a) := by
  obtain ⟨hs, hr0, hke⟩ := key_pos h0
  obtain ⟨C, m, j, hce, hC, hm, hm2, hv1, hv2⟩ := ceil_spec a h0 (by omega)
  have hva : valR (rgB a) < 4611686018427387904 * 2 ^ lowP := by rw [← val62]; exact valR_lt (by omega)
  have hCb : C ≤ 4611686018427387904 := by
    have := Nat.lt_of_mul_lt_mul_right (Nat.lt_trans hv2 hva)
    omega
  obtain ⟨n1, n2⟩ := nearest_int C m j hC hm hm2 (by omega)
  obtain ⟨k1, k2, k3⟩ := key_of_lt (r := Ieee.double.nearest false C 0) (by omega)
  refine ⟨C, hC, hCb, ?_, ?_, ?_, fun h53 => ?_⟩
  · unfold floatToIntVal
    rw [show FloatKind.f64.decode (ceilB a) = Ieee.double.read (ceilB a) from rfl, hce, toInt_of _ C (by rw [k1]; exact n1) k2 (by rw [k1]; exact n2) hC]
    show (if IntKind.i64.min ≤ (C : Int) ∧ (C : Int) ≤ IntKind.i64.max then some (C : Int) else none) = _
    rw [if_pos (by rw [show IntKind.i64.min = -9223372036854775808 by decide, show IntKind.i64.max = 9223372036854775807 by decide]; omega)]
  · rw [floatOf_nat]
    unfold nanB
    rw [k1]
    exact decide_eq_false (by omega)
  · rw [floatOf_nat, k3, hke]
    have : rgB a ≤ Ieee.double.nearest false C 0 := by
      rcases Nat.lt_or_ge (Ieee.double.nearest false C 0) (rgB a) with h | h
      · have := valR_lt h
        rw [n2] at this
        omega
      · exact h
    omega
  · rw [floatOf_nat]
    by_cases hz : C - 1 = 0
    · rw [hz, show Ieee.double.nearest false 0 0 = 0 by decide]
      exact ⟨rfl, by rw [show keyB 0 = 0 from rfl]; exact h0⟩
    · obtain ⟨p1, p2⟩ := nearest_int (C - 1) (C - 1) 0 (by omega) (by omega) (by omega) (by omega)
      obtain ⟨q1, q2, q3⟩ := key_of_lt (r := Ieee.double.nearest false (C - 1) 0) (by omega)
      refine ⟨by unfold nanB; rw [q1]; exact decide_eq_false (by omega), ?_⟩
      rw [q3, hke]
      have : Ieee.double.nearest false (C - 1) 0 < rgB a := (valR_iff _ _).2 (by rw [p2]; exact hv2)
      omega
end Go.Proofs.YtmlfekcnpmlfkaaDoor
