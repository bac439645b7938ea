/-
  Ticks; MeterTicks.
-/
import Derived.Test.YtmlfekcnpmlfkaaDoorFlCeil
namespace Go.Proofs.YtmlfekcnpmlfkaaDoor
set_option linter.unusedSimpArgs false
set_option linter.unusedVariables false
open Go.RowKit

set_option maxRecDepth 20000
theorem ticks0_walk {w : World} (a : Nat) (h : nanB a = true ∨ keyB a ≤ 0) : Calls Tryd.prog 11 #[.float .f64 a] w fun e w' => e = .returned (.int .i64 0) ∧ w = w' := by
  have h1 : (FloatKind.f64.format.order a 0 == some .gt) = false := by
    rw [ord_gt, show keyB 0 = 0 from rfl]
    rcases h with h | h
    · rw [h]; rfl
    · rw [decide_eq_false (by omega), Bool.and_false]
  clear h
  go_enter Tryd.func11, Tryd.ntmps11
  go_wp2_with fail
  go_ret
  exact ⟨rfl, rfl⟩
theorem ticksTop_walk {w : World} (a : Nat) (hn : nanB a = false) (h : 4886405595696988160 ≤ keyB a) : Calls Tryd.prog 11 #[.float .f64 a] w fun e w' => e = .returned (.int .i64 4611686018427387904) ∧ w = w' := by
  have h1 : (FloatKind.f64.format.order a 0 == some .gt) = true := by
    rw [ord_gt, show keyB 0 = 0 from rfl, hn, decide_eq_true (by omega)]; rfl
  have h2 := ord_gt a 4886405595696988160
  have h3 := ord_eq a 4886405595696988160
  rw [hn, show nanB 4886405595696988160 = false by decide, show keyB 4886405595696988160 = 4886405595696988160 by decide, Bool.not_false, Bool.true_and, Bool.true_and] at h2 h3
  by_cases he : keyB a = 4886405595696988160
  · rw [decide_eq_false (by omega)] at h2
    rw [decide_eq_true he] at h3
    clear h he hn
    go_enter Tryd.func11, Tryd.ntmps11
    go_wp2_with fail
    go_ret
    exact ⟨rfl, rfl⟩
  · rw [decide_eq_true (by omega)] at h2
    rw [decide_eq_false he] at h3
    clear h he hn
    go_enter Tryd.func11, Tryd.ntmps11
    go_wp2_with fail
    go_ret
    exact ⟨rfl, rfl⟩
theorem key_num {a : Nat} (h0 : 0 < keyB a) (h1 : keyB a < 4886405595696988160) : nanB a = false := by
  obtain ⟨_, _, h⟩ := key_pos h0
  unfold nanB
  exact decide_eq_false (by omega)
theorem ticksMid_walk {w : World} (a : Nat) (h0 : 0 < keyB a) (h1 : keyB a < 4886405595696988160) (C : Nat) (hC : floatToIntVal .f64 (ceilB a) .i64 = some (C : Int)) : Calls Tryd.prog 11 #[.float .f64 a] w fun e w' => e = .returned (.int .i64 C) ∧ w = w' := by
  have hn := key_num h0 h1
  have g1 : (FloatKind.f64.format.order a 0 == some .gt) = true := by
    rw [ord_gt, show keyB 0 = 0 from rfl, hn, decide_eq_true (by omega)]; rfl
  have g2 := ord_gt a 4886405595696988160
  have g3 := ord_eq a 4886405595696988160
  rw [hn, show nanB 4886405595696988160 = false by decide, show keyB 4886405595696988160 = 4886405595696988160 by decide, Bool.not_false, Bool.true_and, Bool.true_and] at g2 g3
  rw [decide_eq_false (by omega)] at g2
  rw [decide_eq_false (by omega)] at g3
  have hcv : ∀ w, (convert 24 2 (.float .f64 (ceilB a))).run Tryd.prog w = .ok (.int .i64 C) w := fun w => run_convert_float_int w 24 2 .f64 .i64 _ C (by rw [Tryd.underlying24]; rfl) Tryd.underlying2 hC
  have HCL := Lib.hid (fun w => mceil_walk (w := w) a (ceilB a) (fun w => ceil_gen a hn w))
  generalize ceilB a = ca at *
  clear h0 h1 hn hC
  go_enter Tryd.func11, Tryd.ntmps11
  go_wp2_with fail
  refine (HCL.out _).mono ?_
  rintro e w1 ⟨rfl, rfl⟩
  go_wp2_with fail
  go_ret
  exact ⟨rfl, rfl⟩
set_option maxHeartbeats 1600000 in
theorem meterTicks_walk (x : Int) (w : World) (wx : (Lit.int .u64 x).wf = true) (ht : Tabs w) :
    Calls Tryd.prog 3 #[.int .u64 x] w fun e w' => e = .returned (.bool true) ∧ Keeps Nil w w' := by
  obtain ⟨a, rfl, ha⟩ := wf_u64N wx
  have HT := Lib.hid ht
  have hfa := mfrom_run a
  have hsa := ord_self a
  have hl0 := ord_lt a 0
  have he0 := ord_eq a 0
  have hg := ord_gt a 4886405595696988160
  rw [show nanB 0 = false from rfl, show keyB 0 = 0 from rfl, Bool.not_false, Bool.and_true] at hl0 he0
  rw [show nanB 4886405595696988160 = false by decide, show keyB 4886405595696988160 = 4886405595696988160 by decide, Bool.not_false, Bool.and_true] at hg
  clear ht wx
  by_cases hn : nanB a = true
  · have HTK := Lib.hid (fun w => ticks0_walk (w := w) a (.inl hn))
    rw [hn] at hsa
    clear hl0 he0 hg hn
    go_enter Tryd.func3, Tryd.ntmps3
    go_wp2_with fail
    refine (meterfirst_walk HT.out).mono ?_
    rintro e w1 ⟨rfl, hk⟩
    have HK := Lib.hid hk
    clear hk
    go_wp2_with fail
    refine (HTK.out _).mono ?_
    rintro e wz ⟨rfl, rfl⟩
    go_wp2_with fail
    go_ret
    exact ⟨rfl, HK.out⟩
  · have hn : nanB a = false := by cases h : nanB a; rfl; exact absurd h hn
    rw [hn] at hsa hl0 he0 hg
    simp only [Bool.not_false, Bool.true_and] at hl0 he0 hg
    by_cases h0 : keyB a ≤ 0
    · have HTK := Lib.hid (fun w => ticks0_walk (w := w) a (.inr h0))
      have h0' : (decide (keyB a < 0) || decide (keyB a = 0)) = true := by
        rw [Bool.or_eq_true, decide_eq_true_iff, decide_eq_true_iff]; omega
      generalize decide (keyB a < 0) = l0 at *
      generalize decide (keyB a = 0) = e0 at *
      clear hg hn h0
      go_enter Tryd.func3, Tryd.ntmps3
      go_wp2_with fail
      refine (meterfirst_walk HT.out).mono ?_
      rintro e w1 ⟨rfl, hk⟩
      have HK := Lib.hid hk
      clear hk
      go_wp2_with fail
      refine (HTK.out _).mono ?_
      rintro e wz ⟨rfl, rfl⟩
      go_wp2_with fail
      go_ret
      exact ⟨rfl, HK.out⟩
    · rw [decide_eq_false (show ¬ keyB a < 0 by omega)] at hl0
      rw [decide_eq_false (show ¬ keyB a = 0 by omega)] at he0
      by_cases h62 : 4886405595696988160 < keyB a
      · have HTK := Lib.hid (fun w => ticksTop_walk (w := w) a hn (by omega))
        rw [decide_eq_true h62] at hg
        clear hn h0 h62
        go_enter Tryd.func3, Tryd.ntmps3
        go_wp2_with fail
        refine (meterfirst_walk HT.out).mono ?_
        rintro e w1 ⟨rfl, hk⟩
        have HK := Lib.hid hk
        clear hk
        go_wp2_with fail
        refine (HTK.out _).mono ?_
        rintro e wz ⟨rfl, rfl⟩
        go_wp2_with fail
        go_ret
        exact ⟨rfl, HK.out⟩
      · rw [decide_eq_false h62] at hg
        by_cases he62 : keyB a = 4886405595696988160
        · have HTK := Lib.hid (fun w => ticksTop_walk (w := w) a hn (by omega))
          have f1 : floatOfInt .f64 4611686018427387904 = 4886405595696988160 := by kernel_rfl
          have f2 : floatOfInt .f64 4611686018427387903 = 4886405595696988160 := by kernel_rfl
          have g1 := ord_gt 4886405595696988160 a
          have g2 := ord_eq 4886405595696988160 a
          have g3 := ord_lt 4886405595696988160 a
          rw [hn, he62, show nanB 4886405595696988160 = false by decide, show keyB 4886405595696988160 = 4886405595696988160 by decide] at g1 g2 g3
          simp only [Bool.not_false, Bool.true_and, Int.lt_irrefl, decide_false, decide_true] at g1 g2 g3
          clear hn h0 h62 he62
          go_enter Tryd.func3, Tryd.ntmps3
          go_wp2_with fail
          refine (meterfirst_walk HT.out).mono ?_
          rintro e w1 ⟨rfl, hk⟩
          have HK := Lib.hid hk
          clear hk
          go_wp2_with fail
          refine (HTK.out _).mono ?_
          rintro e wz ⟨rfl, rfl⟩
          go_wp2_with fail
          go_ret
          exact ⟨rfl, HK.out⟩
        · obtain ⟨C, c1, c2, c3, c4, c5, c6⟩ := ticks_spec a (by omega) (by omega)
          have HTK := Lib.hid (fun w => ticksMid_walk (w := w) a (by omega) (by omega) C c3)
          have g1 := ord_gt (floatOfInt .f64 (C : Int)) a
          have g2 := ord_eq (floatOfInt .f64 (C : Int)) a
          have g3 := ord_lt (floatOfInt .f64 ((C - 1 : Nat) : Int)) a
          rw [hn, c4] at g1 g2
          simp only [Bool.not_false, Bool.true_and] at g1 g2
          have g12 : (decide (keyB a < keyB (floatOfInt .f64 (C : Int))) || decide (keyB (floatOfInt .f64 (C : Int)) = keyB a)) = true := by
            rw [Bool.or_eq_true, decide_eq_true_iff, decide_eq_true_iff]; omega
          generalize decide (keyB a < keyB (floatOfInt .f64 (C : Int))) = b1 at *
          generalize decide (keyB (floatOfInt .f64 (C : Int)) = keyB a) = b2 at *
          have hz : ((C : Int) == 0) = false := by rw [beq_eq_false_iff_ne]; omega
          obtain ⟨D, hD⟩ : ∃ D, C - 1 = D := ⟨_, rfl⟩
          have hDi : (C : Int) - 1 = (D : Int) := by omega
          have hDw : IntKind.i64.wrap (D : Int) = (D : Int) := by rw [IntKind.wrap_i64]; omega
          rw [hD] at g3 c6
          have g4 : ((!nanB (floatOfInt .f64 (D : Int)) && !nanB a && decide (keyB (floatOfInt .f64 (D : Int)) < keyB a)) || decide ((C : Int) > 9007199254740992)) = true := by
            by_cases h53 : C ≤ 9007199254740992
            · rw [(c6 h53).1, hn, decide_eq_true (c6 h53).2]; rfl
            · rw [decide_eq_true (show (C : Int) > 9007199254740992 by omega), Bool.or_true]
          generalize (!nanB (floatOfInt .f64 (D : Int)) && !nanB a && decide (keyB (floatOfInt .f64 (D : Int)) < keyB a)) = b3 at *
          obtain ⟨b4, hb4⟩ : ∃ b, decide ((C : Int) > 9007199254740992) = b := ⟨_, rfl⟩
          have hb5 : decide ((9007199254740992 : Int) < (C : Int)) = b4 := hb4
          rw [hb4] at g4
          clear hn h0 h62 he62 c1 c2 c3 c4 c5 c6 hD
          cases b1 <;> cases b2 <;> cases b3 <;> cases b4 <;> first | (exact absurd g12 (by decide)) | (exact absurd g4 (by decide)) | (
            clear g12 g4
            go_enter Tryd.func3, Tryd.ntmps3
            go_wp2_with fail
            refine (meterfirst_walk HT.out).mono ?_
            rintro e w1 ⟨rfl, hk⟩
            have HK := Lib.hid hk
            clear hk
            go_wp2_with fail
            refine (HTK.out _).mono ?_
            rintro e wz ⟨rfl, rfl⟩
            go_wp2_with fail
            go_ret
            exact ⟨rfl, HK.out⟩)
end Go.Proofs.YtmlfekcnpmlfkaaDoor
