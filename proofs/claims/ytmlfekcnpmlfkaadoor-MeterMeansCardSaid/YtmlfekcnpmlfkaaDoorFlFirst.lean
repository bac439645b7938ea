/-
  The chapter's examples: first.
-/
import Derived.Test.YtmlfekcnpmlfkaaDoorFlLess
namespace Go.Proofs.YtmlfekcnpmlfkaaDoor
set_option linter.unusedSimpArgs false
set_option linter.unusedVariables false
open Go.RowKit

set_option maxRecDepth 20000
theorem ceil_run (b r : Nat) (w : World) (hr : (Go.Extern.MathFloor.toIntegral "math.archCeil" .up #[.float .f64 b]).run Tryd.prog w = .ok (.float .f64 r) w) : (callFunc 35 #[.float .f64 b]).run Tryd.prog w = .ok (.value (.float .f64 r)) w := by
  rw [run_callFunc_extern (fn := Tryd.f35) (e := Go.Extern.MathFloor.toIntegral "math.archCeil" .up) (by kernel_rfl) (by kernel_rfl) (by kernel_rfl) (by kernel_rfl) (by kernel_rfl), hr]
  rfl
theorem mceil_walk {w : World} (b r : Nat) (hr : ∀ w, (Go.Extern.MathFloor.toIntegral "math.archCeil" .up #[.float .f64 b]).run Tryd.prog w = .ok (.float .f64 r) w) :
    Calls Tryd.prog 29 #[.float .f64 b] w fun e w' => e = .returned (.float .f64 r) ∧ w = w' := by
  have h := fun w => ceil_run b r w (hr w)
  clear hr
  go_enter Tryd.func29, Tryd.ntmps29
  go_wp2_with fail
  go_ret
  exact ⟨rfl, rfl⟩
/-- math.Ceil, of a number. -/
def ceilB (b : Nat) : Nat := Ieee.double.write ((Ieee.double.read b).integral .up)
theorem ceil_gen (b : Nat) (hn : nanB b = false) (w : World) : (Go.Extern.MathFloor.toIntegral "math.archCeil" .up #[.float .f64 b]).run Tryd.prog w = .ok (.float .f64 (ceilB b)) w := by
  unfold Go.Extern.MathFloor.toIntegral ceilB
  show Sem.run _ (match FloatKind.f64.decode b with | .nan s t => _ | d => _) w = _
  rw [show FloatKind.f64.decode b = Ieee.double.read b from rfl]
  rcases Nat.lt_or_ge (rgB b) 9218868437227405312 with h | h
  · obtain ⟨m, k, hr, _⟩ := read_num h
    rw [hr]
    rfl
  · rw [read_inf (show rgB b = 9218868437227405312 by unfold nanB at hn; rw [decide_eq_false_iff_not] at hn; omega)]
    rfl
theorem half_ceil : ceilB 4602678819172646912 = 4607182418800017408 := by kernel_rfl
theorem half_run (w : World) : (Go.Extern.MathFloor.toIntegral "math.archCeil" .up #[.float .f64 4602678819172646912]).run Tryd.prog w = .ok (.float .f64 4607182418800017408) w := by
  rw [ceil_gen _ (by decide), half_ceil]
theorem ticksHalf_walk {w : World} : Calls Tryd.prog 11 #[.float .f64 4602678819172646912] w fun e w' => e = .returned (.int .i64 1) ∧ w = w' := by
  have h1 : (FloatKind.f64.format.order 4602678819172646912 0 == some .gt) = true := by rw [ord_gt]; decide
  have h2 : (FloatKind.f64.format.order 4602678819172646912 4886405595696988160 == some .gt) = false := by rw [ord_gt]; decide
  have h3 : (FloatKind.f64.format.order 4602678819172646912 4886405595696988160 == some .eq) = false := by rw [ord_eq]; decide
  have hcv : ∀ w, (convert 24 2 (.float .f64 4607182418800017408)).run Tryd.prog w = .ok (.int .i64 1) w := fun w => run_convert_float_int w 24 2 .f64 .i64 _ 1 (by rw [Tryd.underlying24]; rfl) Tryd.underlying2 (by kernel_rfl)
  go_enter Tryd.func11, Tryd.ntmps11
  go_wp2_with fail
  refine (mceil_walk _ _ half_run).mono ?_
  rintro e w1 ⟨rfl, rfl⟩
  go_wp2_with fail
  go_ret
  exact ⟨rfl, rfl⟩
theorem rate63_walk {w : World} : Calls Tryd.prog 17 #[.int .i64 6, .int .i64 3] w fun e w' => e = .returned (.float .f64 4611686018427387904) ∧ w = w' := by
  have e6 : floatOfInt .f64 6 = 4618441417868443648 := by kernel_rfl
  have e3 : floatOfInt .f64 3 = 4613937818241073152 := by kernel_rfl
  have h := fun w => run_float_arith (P := Tryd.prog) w .quo 24 .f64 4618441417868443648 4613937818241073152 4611686018427387904 (by kernel_rfl)
  go_enter Tryd.func17, Tryd.ntmps17
  go_wp2_with fail
  go_ret
  exact ⟨rfl, rfl⟩
theorem isinfUp_walk {w : World} (a : Nat) : Calls Tryd.prog 18 #[.float .f64 a, .int .i64 1] w fun e w' => e = .returned (.bool (!nanB a && decide (9218868437227405311 < keyB a))) ∧ w = w' := by
  have h := ord_gt a 9218868437227405311
  rw [show nanB 9218868437227405311 = false by decide, Bool.not_false, Bool.and_true, show keyB 9218868437227405311 = 9218868437227405311 by decide] at h
  go_enter Tryd.func18, Tryd.ntmps18
  go_wp2_with fail
  go_ret
  exact ⟨rfl, rfl⟩
def negB (a : Nat) : Nat := if a < 9223372036854775808 then a + 9223372036854775808 else a - 9223372036854775808
theorem neg_eq (a : Nat) (ha : a < W64) : Op.negFloat .f64 a = negB a := by
  show a ^^^ 2 ^ 63 = negB a
  have h1 : (a ^^^ 2 ^ 63) % 2 ^ 63 = a % 2 ^ 63 := by
    rw [Nat.xor_mod_two_pow, Nat.mod_self, Nat.xor_zero]
  have h2 : (a ^^^ 2 ^ 63) / 2 ^ 63 = (a / 2 ^ 63) ^^^ 1 := by
    rw [Nat.xor_div_two_pow]
  unfold W64 at ha
  generalize a ^^^ 2 ^ 63 = x at *
  unfold negB
  by_cases h : a < 9223372036854775808
  · rw [if_pos h]
    rw [show a / 2 ^ 63 = 0 by omega, show 0 ^^^ 1 = 1 from rfl] at h2
    omega
  · rw [if_neg h]
    rw [show a / 2 ^ 63 = 1 by omega, show 1 ^^^ 1 = 0 from rfl] at h2
    omega
theorem neg_key (a : Nat) (ha : a < W64) : nanB (negB a) = nanB a ∧ keyB (negB a) = -keyB a := by
  have hr : rgB (negB a) = rgB a := by unfold rgB negB; split <;> omega
  have hs : sgB (negB a) = !sgB a := by
    unfold sgB negB
    unfold W64 at ha
    split
    · rename_i h
      rw [show (a + 9223372036854775808) / 9223372036854775808 % 2 = 1 by omega, show a / 9223372036854775808 % 2 = 0 by omega]
      rfl
    · rename_i h
      rw [show (a - 9223372036854775808) / 9223372036854775808 % 2 = 0 by omega, show a / 9223372036854775808 % 2 = 1 by omega]
      rfl
  unfold nanB keyB
  rw [hr, hs]
  refine ⟨rfl, ?_⟩
  cases sgB a <;> simp
theorem isinfDown_walk {w : World} (a : Nat) (ha : a < W64) : Calls Tryd.prog 18 #[.float .f64 a, .int .i64 (-1)] w fun e w' => e = .returned (.bool (!nanB a && decide (keyB a < -9218868437227405311))) ∧ w = w' := by
  have h := ord_gt (negB a) 9218868437227405311
  rw [show nanB 9218868437227405311 = false by decide, Bool.not_false, Bool.and_true, show keyB 9218868437227405311 = 9218868437227405311 by decide, (neg_key a ha).1, (neg_key a ha).2, show decide ((9218868437227405311 : Int) < -keyB a) = decide (keyB a < -9218868437227405311) by rw [decide_eq_decide]; omega] at h
  have hneg : ∀ w, (Op.unary .neg (.float .f64 a)).run Tryd.prog w = .ok (.float .f64 (negB a)) w := fun w => by rw [← neg_eq a ha]; rfl
  generalize negB a = na at *
  go_enter Tryd.func18, Tryd.ntmps18
  go_wp2_with fail
  go_ret
  exact ⟨rfl, rfl⟩
theorem show25_walk {w : World} (ht : Tabs w) : Calls Tryd.prog 19 #[.float .f64 4612811918334230528] w fun e w' => e = .returned (.string ⟨#[50, 46, 53]⟩) ∧ Keeps Nil w w' := by
  have hz : (FloatKind.f64.format.order 4612811918334230528 0 == some .eq) = false := by rw [ord_eq]; decide
  have HF := Lib.hid (fun w (h : Tabs w) => ff_walk h 4612811918334230528 (by decide) (by decide) (by decide))
  rw [text25] at HF
  go_enter Tryd.func19, Tryd.ntmps19
  go_wp2_with fail
  refine (isnan_walk _).mono ?_
  rintro e w1 ⟨rfl, rfl⟩
  rw [show nanB 4612811918334230528 = false by decide]
  go_wp2_with fail
  refine (isinfUp_walk _).mono ?_
  rintro e w1 ⟨rfl, rfl⟩
  rw [show (!nanB 4612811918334230528 && decide (9218868437227405311 < keyB 4612811918334230528)) = false by decide]
  go_wp2_with fail
  refine (isinfDown_walk _ (by decide)).mono ?_
  rintro e w1 ⟨rfl, rfl⟩
  rw [show (!nanB 4612811918334230528 && decide (keyB 4612811918334230528 < -9218868437227405311)) = false by decide]
  go_wp2_with fail
  refine (HF.out _ ht).mono ?_
  rintro e w1 ⟨rfl, hk⟩
  have HK := Lib.hid hk
  clear hk
  go_wp2_with fail
  go_ret
  exact ⟨rfl, HK.out⟩
theorem meterfirst_walk {w : World} (ht : Tabs w) : Calls Tryd.prog 9 #[] w fun e w' => e = .returned (.bool true) ∧ Keeps Nil w w' := by
  have HT := Lib.hid ht
  clear ht
  have h22 : (FloatKind.f64.format.order 4611686018427387904 4611686018427387904 == some .eq) = true := by rw [ord_eq]; decide
  go_enter Tryd.func9, Tryd.ntmps9
  go_wp2_with fail
  refine ticksHalf_walk.mono ?_
  rintro e w1 ⟨rfl, rfl⟩
  go_wp2_with fail
  refine (show25_walk HT.out).mono ?_
  rintro e w1 ⟨rfl, hk⟩
  have HK := Lib.hid hk
  clear hk
  go_wp2_with fail
  refine rate63_walk.mono ?_
  rintro e w2 ⟨rfl, rfl⟩
  go_wp2_with fail
  go_ret
  exact ⟨rfl, HK.out⟩
end Go.Proofs.YtmlfekcnpmlfkaaDoor
