/-
  MeterEdges.
-/
import Derived.Test.YtmlfekcnpmlfkaaDoorFlShow
namespace Go.Proofs.YtmlfekcnpmlfkaaDoor
set_option linter.unusedSimpArgs false
set_option linter.unusedVariables false
open Go.RowKit

set_option maxRecDepth 20000
theorem rate_walk {w : World} (n t : Int) (r : Nat) (h : floatBits .quo .f64 (floatOfInt .f64 n) (floatOfInt .f64 t) = some r) : Calls Tryd.prog 17 #[.int .i64 n, .int .i64 t] w fun e w' => e = .returned (.float .f64 r) ∧ w = w' := by
  have h := fun w => run_float_arith (P := Tryd.prog) w .quo 24 .f64 _ _ r h
  go_enter Tryd.func17, Tryd.ntmps17
  go_wp2_with fail
  go_ret
  exact ⟨rfl, rfl⟩
theorem rateNan_walk {w : World} (n t : Int) (h : floatBits .quo .f64 (floatOfInt .f64 n) (floatOfInt .f64 t) = none) : Calls Tryd.prog 17 #[.int .i64 n, .int .i64 t] w fun e w' => ∃ q, e = .returned (.float .f64 q) ∧ nanB q = true ∧ q < W64 ∧ Keeps Nil w w' := by
  obtain ⟨q, h1, h2, h3⟩ := arith_nan (P := Tryd.prog) .quo (.inr rfl) _ _ h w
  have HQ := Lib.hid (And.intro h1 h2)
  have hr := h3 24
  clear h h1 h2 h3
  go_enter Tryd.func17, Tryd.ntmps17
  go_wp2_with fail
  go_ret
  exact ⟨q, rfl, HQ.out.1, HQ.out.2, (Keeps.refl _ _).drew⟩
theorem ticksAny_walk (a : Nat) : ∃ t : Int, 0 ≤ t ∧ t ≤ 4611686018427387904 ∧ ∀ w, Calls Tryd.prog 11 #[.float .f64 a] w fun e w' => e = .returned (.int .i64 t) ∧ w = w' := by
  by_cases h : nanB a = true ∨ keyB a ≤ 0
  · exact ⟨0, by omega, by omega, fun w => ticks0_walk a h⟩
  · have hn : nanB a = false := by cases h1 : nanB a; rfl; exact absurd (.inl h1) h
    have h0 : 0 < keyB a := by have : ¬ keyB a ≤ 0 := fun h1 => h (.inr h1); omega
    by_cases h62 : 4886405595696988160 ≤ keyB a
    · exact ⟨4611686018427387904, by omega, by omega, fun w => ticksTop_walk a hn h62⟩
    · obtain ⟨C, c1, c2, c3, _⟩ := ticks_spec a h0 (by omega)
      exact ⟨C, by omega, by omega, fun w => ticksMid_walk a h0 (by omega) C c3⟩
set_option maxHeartbeats 3200000 in
theorem meterEdges_walk (n x : Int) (w : World) (wn : (Lit.int .i64 n).wf = true) (wx : (Lit.int .u64 x).wf = true) (ht : Tabs w) :
    Calls Tryd.prog 5 #[.int .i64 n, .int .u64 x] w fun e w' => e = .returned (.bool true) ∧ Keeps Nil w w' := by
  obtain ⟨a, rfl, ha⟩ := wf_u64N wx
  have hnb : -9223372036854775808 ≤ n ∧ n ≤ 9223372036854775807 := by simpa [Lit.wf, IntKind.min, IntKind.max, IntKind.signed, IntKind.bits] using wn
  have HT := Lib.hid ht
  have hfa := mfrom_run a
  obtain ⟨ta, hta0, hta1, hta⟩ := ticksAny_walk a
  have HTA := Lib.hid hta
  clear ht wx wn hta
  obtain ⟨N, hN⟩ : ∃ N : Int, N = if n ≤ 0 then 1 - n.tdiv 2 else n := ⟨_, rfl⟩
  have hNb : 1 ≤ N ∧ N ≤ 9223372036854775807 := by
    rw [hN]
    split
    · have : n.tdiv 2 = -((-n) / 2) := by
        rw [← Int.neg_neg n, Int.neg_tdiv, Int.tdiv_eq_ediv_of_nonneg (by omega)]
        simp
      omega
    · omega
  obtain ⟨r, hr1, hr2, hr3, hr4⟩ := floatOf_pos N hNb.1 hNb.2
  have hf0 : floatOfInt .f64 0 = 0 := by decide
  have HUP : Hid (floatBits .quo .f64 (floatOfInt .f64 N) (floatOfInt .f64 0) = some 9218868437227405312) := Lib.hid (by rw [hr1, hf0]; exact div_up hr3 hr4)
  have HDN : Hid (floatBits .quo .f64 (floatOfInt .f64 (-N)) (floatOfInt .f64 0) = some 18442240474082181120) := Lib.hid (by rw [hr2, hf0]; exact div_down hr3 hr4)
  have HZR : Hid (floatBits .quo .f64 (floatOfInt .f64 0) (floatOfInt .f64 (-N)) = some 9223372036854775808) := Lib.hid (by rw [hr2, hf0]; exact div_zero hr3 hr4)
  have hng : IntKind.i64.wrap (-N) = -N := by rw [IntKind.wrap_i64]; omega
  have hz0 : (FloatKind.f64.format.order 9223372036854775808 0 == some .eq) = true := by rw [ord_eq]; decide
  have hz3 : (FloatKind.f64.format.order 4613937818241073152 4613937818241073152 == some .eq) = true := by rw [ord_eq]; decide
  have hz5 : (FloatKind.f64.format.order 4617315517961601024 4617315517961601024 == some .eq) = true := by rw [ord_eq]; decide
  clear hr1 hr2 hr3 hr4 hf0
  by_cases h0 : n ≤ 0
  · rw [if_pos h0] at hN
    have hdw : IntKind.i64.wrap (n.tdiv 2) = n.tdiv 2 := by
      have h1 : n.tdiv 2 = 1 - N := by omega
      rw [h1, IntKind.wrap_i64]; omega
    have hNw : IntKind.i64.wrap (1 - n.tdiv 2) = N := by rw [← hN, IntKind.wrap_i64]; omega
    have HNN := Lib.hid hN
    clear hN
    go_enter Tryd.func5, Tryd.ntmps5
    go_wp2_with fail
    refine (meterfirst_walk HT.out).mono ?_
    rintro e w1 ⟨rfl, hk⟩
    have HK := Lib.hid hk
    replace HT := Lib.hid (HT.out.keep hk)
    clear hk
    go_wp2_with fail
    refine (rate_walk N 0 9218868437227405312 HUP.out).mono ?_
    rintro e wz ⟨rfl, rfl⟩
    go_wp2_with fail
    refine (rate_walk (-N) 0 18442240474082181120 HDN.out).mono ?_
    rintro e wz ⟨rfl, rfl⟩
    go_wp2_with fail
    refine (rateNan_walk 0 0 div_none).mono ?_
    rintro e wz ⟨q, rfl, hq, hql, hk⟩
    replace HK := Lib.hid (HK.out.trans hk)
    replace HT := Lib.hid (HT.out.keep hk)
    have hsq := ord_self q
    rw [hq] at hsq
    have HQ := Lib.hid hq
    clear hk hq
    go_wp2_with fail
    refine (rate_walk 0 (-N) 9223372036854775808 HZR.out).mono ?_
    rintro e wz ⟨rfl, rfl⟩
    go_wp2_with fail
    refine (HTA.out _).mono ?_
    rintro e wz ⟨rfl, rfl⟩
    go_wp2_with fail
    refine (isinfUp_walk 9218868437227405312).mono ?_
    rintro e wz ⟨rfl, rfl⟩
    rw [show (!nanB 9218868437227405312 && decide (9218868437227405311 < keyB 9218868437227405312)) = true by decide]
    go_wp2_with fail
    refine (isinfDown_walk 18442240474082181120 (by decide)).mono ?_
    rintro e wz ⟨rfl, rfl⟩
    rw [show (!nanB 18442240474082181120 && decide (keyB 18442240474082181120 < -9218868437227405311)) = true by decide]
    go_wp2_with fail
    refine (signbit_walk 9223372036854775808 (by decide)).mono ?_
    rintro e wz ⟨rfl, rfl⟩
    rw [show sgB 9223372036854775808 = true by decide]
    go_wp2_with fail
    refine (show_walk HT.out 9218868437227405312 (by decide)).mono ?_
    rintro e wz ⟨rfl, hk⟩
    rw [show showB 9218868437227405312 = ⟨#[43, 105, 110, 102]⟩ by decide]
    replace HK := Lib.hid (HK.out.trans hk)
    replace HT := Lib.hid (HT.out.keep hk)
    clear hk
    go_wp2_with fail
    refine (show_walk HT.out 18442240474082181120 (by decide)).mono ?_
    rintro e wz ⟨rfl, hk⟩
    rw [show showB 18442240474082181120 = ⟨#[45, 105, 110, 102]⟩ by decide]
    replace HK := Lib.hid (HK.out.trans hk)
    replace HT := Lib.hid (HT.out.keep hk)
    clear hk
    go_wp2_with fail
    refine (show_walk HT.out q hql).mono ?_
    rintro e wz ⟨rfl, hk⟩
    rw [show showB q = ⟨#[110, 97, 110]⟩ by unfold showB; rw [if_pos HQ.out]]
    replace HK := Lib.hid (HK.out.trans hk)
    replace HT := Lib.hid (HT.out.keep hk)
    clear hk
    go_wp2_with fail
    refine (show_walk HT.out 9223372036854775808 (by decide)).mono ?_
    rintro e wz ⟨rfl, hk⟩
    rw [show showB 9223372036854775808 = ⟨#[45, 48]⟩ by decide]
    replace HK := Lib.hid (HK.out.trans hk)
    replace HT := Lib.hid (HT.out.keep hk)
    clear hk
    go_wp2_with fail
    refine (show_walk HT.out 0 (by decide)).mono ?_
    rintro e wz ⟨rfl, hk⟩
    rw [show showB 0 = ⟨#[48]⟩ by kernel_rfl]
    replace HK := Lib.hid (HK.out.trans hk)
    replace HT := Lib.hid (HT.out.keep hk)
    clear hk
    go_wp2_with fail
    refine (ticks0_walk q (.inl HQ.out)).mono ?_
    rintro e wz ⟨rfl, rfl⟩
    go_wp2_with fail
    refine (ticksTop_walk 9218868437227405312 (by decide) (by decide)).mono ?_
    rintro e wz ⟨rfl, rfl⟩
    go_wp2_with fail
    refine (ticks0_walk 18442240474082181120 (.inr (by decide))).mono ?_
    rintro e wz ⟨rfl, rfl⟩
    go_wp2_with fail
    refine (ticks0_walk 9223372036854775808 (.inr (by decide))).mono ?_
    rintro e wz ⟨rfl, rfl⟩
    go_wp2_with fail
    refine (clamp_walk 9223372036854775808 9223372036854775808 0 (by decide) (by decide) (by decide)).mono ?_
    rintro e wz ⟨rfl, rfl⟩
    rw [show clampB 9223372036854775808 9223372036854775808 0 = 9223372036854775808 by decide]
    go_wp2_with fail
    refine (signbit_walk 9223372036854775808 (by decide)).mono ?_
    rintro e wz ⟨rfl, rfl⟩
    rw [show sgB 9223372036854775808 = true by decide]
    go_wp2_with fail
    refine (clamp_walk q 4613937818241073152 4617315517961601024 hql (by decide) (by decide)).mono ?_
    rintro e wz ⟨rfl, rfl⟩
    rw [show clampB q 4613937818241073152 4617315517961601024 = 4613937818241073152 by unfold clampB; rw [rk_nan HQ.out, if_pos (by decide)]]
    go_wp2_with fail
    refine (clamp_walk 9218868437227405312 4613937818241073152 4617315517961601024 (by decide) (by decide) (by decide)).mono ?_
    rintro e wz ⟨rfl, rfl⟩
    rw [show clampB 9218868437227405312 4613937818241073152 4617315517961601024 = 4617315517961601024 by decide]
    go_wp2_with fail
    go_ret
    exact ⟨rfl, HK.out⟩
  · rw [if_neg h0] at hN
    subst hN
    go_enter Tryd.func5, Tryd.ntmps5
    go_wp2_with fail
    refine (meterfirst_walk HT.out).mono ?_
    rintro e w1 ⟨rfl, hk⟩
    have HK := Lib.hid hk
    replace HT := Lib.hid (HT.out.keep hk)
    clear hk
    go_wp2_with fail
    refine (rate_walk N 0 9218868437227405312 HUP.out).mono ?_
    rintro e wz ⟨rfl, rfl⟩
    go_wp2_with fail
    refine (rate_walk (-N) 0 18442240474082181120 HDN.out).mono ?_
    rintro e wz ⟨rfl, rfl⟩
    go_wp2_with fail
    refine (rateNan_walk 0 0 div_none).mono ?_
    rintro e wz ⟨q, rfl, hq, hql, hk⟩
    replace HK := Lib.hid (HK.out.trans hk)
    replace HT := Lib.hid (HT.out.keep hk)
    have hsq := ord_self q
    rw [hq] at hsq
    have HQ := Lib.hid hq
    clear hk hq
    go_wp2_with fail
    refine (rate_walk 0 (-N) 9223372036854775808 HZR.out).mono ?_
    rintro e wz ⟨rfl, rfl⟩
    go_wp2_with fail
    refine (HTA.out _).mono ?_
    rintro e wz ⟨rfl, rfl⟩
    go_wp2_with fail
    refine (isinfUp_walk 9218868437227405312).mono ?_
    rintro e wz ⟨rfl, rfl⟩
    rw [show (!nanB 9218868437227405312 && decide (9218868437227405311 < keyB 9218868437227405312)) = true by decide]
    go_wp2_with fail
    refine (isinfDown_walk 18442240474082181120 (by decide)).mono ?_
    rintro e wz ⟨rfl, rfl⟩
    rw [show (!nanB 18442240474082181120 && decide (keyB 18442240474082181120 < -9218868437227405311)) = true by decide]
    go_wp2_with fail
    refine (signbit_walk 9223372036854775808 (by decide)).mono ?_
    rintro e wz ⟨rfl, rfl⟩
    rw [show sgB 9223372036854775808 = true by decide]
    go_wp2_with fail
    refine (show_walk HT.out 9218868437227405312 (by decide)).mono ?_
    rintro e wz ⟨rfl, hk⟩
    rw [show showB 9218868437227405312 = ⟨#[43, 105, 110, 102]⟩ by decide]
    replace HK := Lib.hid (HK.out.trans hk)
    replace HT := Lib.hid (HT.out.keep hk)
    clear hk
    go_wp2_with fail
    refine (show_walk HT.out 18442240474082181120 (by decide)).mono ?_
    rintro e wz ⟨rfl, hk⟩
    rw [show showB 18442240474082181120 = ⟨#[45, 105, 110, 102]⟩ by decide]
    replace HK := Lib.hid (HK.out.trans hk)
    replace HT := Lib.hid (HT.out.keep hk)
    clear hk
    go_wp2_with fail
    refine (show_walk HT.out q hql).mono ?_
    rintro e wz ⟨rfl, hk⟩
    rw [show showB q = ⟨#[110, 97, 110]⟩ by unfold showB; rw [if_pos HQ.out]]
    replace HK := Lib.hid (HK.out.trans hk)
    replace HT := Lib.hid (HT.out.keep hk)
    clear hk
    go_wp2_with fail
    refine (show_walk HT.out 9223372036854775808 (by decide)).mono ?_
    rintro e wz ⟨rfl, hk⟩
    rw [show showB 9223372036854775808 = ⟨#[45, 48]⟩ by decide]
    replace HK := Lib.hid (HK.out.trans hk)
    replace HT := Lib.hid (HT.out.keep hk)
    clear hk
    go_wp2_with fail
    refine (show_walk HT.out 0 (by decide)).mono ?_
    rintro e wz ⟨rfl, hk⟩
    rw [show showB 0 = ⟨#[48]⟩ by kernel_rfl]
    replace HK := Lib.hid (HK.out.trans hk)
    replace HT := Lib.hid (HT.out.keep hk)
    clear hk
    go_wp2_with fail
    refine (ticks0_walk q (.inl HQ.out)).mono ?_
    rintro e wz ⟨rfl, rfl⟩
    go_wp2_with fail
    refine (ticksTop_walk 9218868437227405312 (by decide) (by decide)).mono ?_
    rintro e wz ⟨rfl, rfl⟩
    go_wp2_with fail
    refine (ticks0_walk 18442240474082181120 (.inr (by decide))).mono ?_
    rintro e wz ⟨rfl, rfl⟩
    go_wp2_with fail
    refine (ticks0_walk 9223372036854775808 (.inr (by decide))).mono ?_
    rintro e wz ⟨rfl, rfl⟩
    go_wp2_with fail
    refine (clamp_walk 9223372036854775808 9223372036854775808 0 (by decide) (by decide) (by decide)).mono ?_
    rintro e wz ⟨rfl, rfl⟩
    rw [show clampB 9223372036854775808 9223372036854775808 0 = 9223372036854775808 by decide]
    go_wp2_with fail
    refine (signbit_walk 9223372036854775808 (by decide)).mono ?_
    rintro e wz ⟨rfl, rfl⟩
    rw [show sgB 9223372036854775808 = true by decide]
    go_wp2_with fail
    refine (clamp_walk q 4613937818241073152 4617315517961601024 hql (by decide) (by decide)).mono ?_
    rintro e wz ⟨rfl, rfl⟩
    rw [show clampB q 4613937818241073152 4617315517961601024 = 4613937818241073152 by unfold clampB; rw [rk_nan HQ.out, if_pos (by decide)]]
    go_wp2_with fail
    refine (clamp_walk 9218868437227405312 4613937818241073152 4617315517961601024 (by decide) (by decide) (by decide)).mono ?_
    rintro e wz ⟨rfl, rfl⟩
    rw [show clampB 9218868437227405312 4613937818241073152 4617315517961601024 = 4617315517961601024 by decide]
    go_wp2_with fail
    go_ret
    exact ⟨rfl, HK.out⟩
end Go.Proofs.YtmlfekcnpmlfkaaDoor
