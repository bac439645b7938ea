/-
  MeterOrder.
-/
import Derived.Test.YtmlfekcnpmlfkaaDoorFlClamps
namespace Go.Proofs.YtmlfekcnpmlfkaaDoor
set_option linter.unusedSimpArgs false
set_option linter.unusedVariables false
open Go.RowKit

set_option maxRecDepth 20000 in
theorem copysign_walk {w : World} : Calls Tryd.prog 16 #[.float .f64 0, .float .f64 13830554455654793216] w fun e w' => e = .returned (.float .f64 9223372036854775808) ∧ w = w' := by
  have h1 : ∀ w, (callFunc 32 #[.float .f64 0]).run Tryd.prog w = .ok (.value (.int .u64 0)) w := mbits_run 0
  have h2 : ∀ w, (callFunc 32 #[.float .f64 13830554455654793216]).run Tryd.prog w = .ok (.value (.int .u64 13830554455654793216)) w := mbits_run 13830554455654793216
  have h3 : ∀ w, (callFunc 10 #[.int .u64 9223372036854775808]).run Tryd.prog w = .ok (.value (.float .f64 9223372036854775808)) w := mfrom_run 9223372036854775808
  have b1 : bits .andNot .u64 0 9223372036854775808 = 0 := by decide
  have b2 : bits .and .u64 13830554455654793216 9223372036854775808 = 9223372036854775808 := by decide
  have b3 : bits .or .u64 0 9223372036854775808 = 9223372036854775808 := by decide
  go_enter Tryd.func16, Tryd.ntmps16
  go_wp2_with fail
  go_ret
  exact ⟨rfl, rfl⟩
set_option maxRecDepth 20000 in
theorem nan_walk {w : World} : Calls Tryd.prog 12 #[] w fun e w' => e = .returned (.float .f64 9221120237041090561) ∧ w = w' := by
  have h : ∀ w, (callFunc 10 #[.int .u64 9221120237041090561]).run Tryd.prog w = .ok (.value (.float .f64 9221120237041090561)) w := mfrom_run 9221120237041090561
  go_enter Tryd.func12, Tryd.ntmps12
  go_wp2_with fail
  go_ret
  exact ⟨rfl, rfl⟩
set_option maxRecDepth 20000 in
theorem infDown_walk {w : World} : Calls Tryd.prog 22 #[.int .i64 (-1)] w fun e w' => e = .returned (.float .f64 18442240474082181120) ∧ w = w' := by
  have h : ∀ w, (callFunc 10 #[.int .u64 18442240474082181120]).run Tryd.prog w = .ok (.value (.float .f64 18442240474082181120)) w := mfrom_run 18442240474082181120
  go_enter Tryd.func22, Tryd.ntmps22
  go_wp2_with fail
  go_ret
  exact ⟨rfl, rfl⟩
theorem rk_nan {a : Nat} (h : nanB a = true) : rkB a = -9223372036854775809 := by unfold rkB; rw [if_pos h]
theorem rk_num {a : Nat} (h : nanB a = false) : -9223372036854775809 < rkB a := by
  have := rg_lt a
  unfold rkB
  rw [if_neg (by rw [h]; decide)]
  split <;> omega
set_option maxRecDepth 20000 in
set_option maxHeartbeats 3200000 in
theorem meterOrder_walk (x y z : Int) (w : World) (wx : (Lit.int .u64 x).wf = true) (wl : (Lit.int .u64 y).wf = true) (wh : (Lit.int .u64 z).wf = true) (ht : Tabs w) :
    Calls Tryd.prog 7 #[.int .u64 x, .int .u64 y, .int .u64 z] w fun e w' => e = .returned (.bool true) ∧ Keeps Nil w w' := by
  obtain ⟨a, rfl, ha⟩ := wf_u64N wx
  obtain ⟨b, rfl, hb⟩ := wf_u64N wl
  obtain ⟨c, rfl, hc⟩ := wf_u64N wh
  have HT := Lib.hid ht
  have hfa := mfrom_run a
  have hfb := mfrom_run b
  have hfc := mfrom_run c
  have hsa := ord_self a
  have hsb := ord_self b
  have heb := ord_eq b b
  rw [decide_eq_true (rfl : keyB b = keyB b), Bool.and_true, Bool.and_self] at heb
  have Hna := Lib.hid (rk_nan (a := a))
  have Hma := Lib.hid (rk_num (a := a))
  have Hnb := Lib.hid (rk_nan (a := b))
  have Hmb := Lib.hid (rk_num (a := b))
  have Hinj := Lib.hid (rk_inj ha hb)
  clear ht wx wl wh
  have hab : rkB a < rkB b ∨ rkB b < rkB a ∨ rkB a = rkB b := by omega
  rcases hab with hab | hab | hab
  · have hnb : nanB b = false := by
      cases h : nanB b with
      | false => rfl
      | true =>
        have h1 := Hnb.out h
        cases h2 : nanB a with
        | true => have := Hna.out h2; omega
        | false => have := Hma.out h2; omega
    rw [hnb] at hsb heb
    rw [Bool.not_false] at heb
    clear Hna Hma Hnb Hmb Hinj hnb
    obtain ⟨na, hna⟩ : ∃ n, nanB a = n := ⟨_, rfl⟩
    rw [hna] at hsa
    clear hna
    by_cases hbc : rkB b < rkB c
    · cases na <;> (
      go_enter Tryd.func7, Tryd.ntmps7
      go_wp2_with fail
      refine (meterfirst_walk HT.out).mono ?_
      rintro e w1 ⟨rfl, hk⟩
      have HK := Lib.hid hk
      clear hk
      go_wp2_with fail
      refine (less_walk a b ha hb).mono ?_
      rintro e wz ⟨rfl, rfl⟩
      rw [decide_eq_true (show rkB a < rkB b by omega)]
      go_wp2_with fail
      refine (less_walk b a hb ha).mono ?_
      rintro e wz ⟨rfl, rfl⟩
      rw [decide_eq_false (show ¬ rkB b < rkB a by omega)]
      go_wp2_with fail
      refine (less_walk b c hb hc).mono ?_
      rintro e wz ⟨rfl, rfl⟩
      rw [decide_eq_true (show rkB b < rkB c by omega)]
      go_wp2_with fail
      refine (less_walk a c ha hc).mono ?_
      rintro e wz ⟨rfl, rfl⟩
      rw [decide_eq_true (show rkB a < rkB c by omega)]
      go_wp2_with fail
      refine (less_walk a a ha ha).mono ?_
      rintro e wz ⟨rfl, rfl⟩
      rw [decide_eq_false (show ¬ rkB a < rkB a by omega)]
      go_wp2_with fail
      refine copysign_walk.mono ?_
      rintro e wz ⟨rfl, rfl⟩
      go_wp2_with fail
      refine (less_walk 9223372036854775808 0 (by decide) (by decide)).mono ?_
      rintro e wz ⟨rfl, rfl⟩
      rw [decide_eq_true (show rkB 9223372036854775808 < rkB 0 by decide)]
      go_wp2_with fail
      refine copysign_walk.mono ?_
      rintro e wz ⟨rfl, rfl⟩
      go_wp2_with fail
      refine (less_walk 0 9223372036854775808 (by decide) (by decide)).mono ?_
      rintro e wz ⟨rfl, rfl⟩
      rw [decide_eq_false (show ¬ rkB 0 < rkB 9223372036854775808 by decide)]
      go_wp2_with fail
      refine nan_walk.mono ?_
      rintro e wz ⟨rfl, rfl⟩
      go_wp2_with fail
      refine infDown_walk.mono ?_
      rintro e wz ⟨rfl, rfl⟩
      go_wp2_with fail
      refine (less_walk 9221120237041090561 18442240474082181120 (by decide) (by decide)).mono ?_
      rintro e wz ⟨rfl, rfl⟩
      rw [decide_eq_true (show rkB 9221120237041090561 < rkB 18442240474082181120 by decide)]
      go_wp2_with fail
      go_ret
      exact ⟨rfl, HK.out⟩)
    · cases na <;> (
      go_enter Tryd.func7, Tryd.ntmps7
      go_wp2_with fail
      refine (meterfirst_walk HT.out).mono ?_
      rintro e w1 ⟨rfl, hk⟩
      have HK := Lib.hid hk
      clear hk
      go_wp2_with fail
      refine (less_walk a b ha hb).mono ?_
      rintro e wz ⟨rfl, rfl⟩
      rw [decide_eq_true (show rkB a < rkB b by omega)]
      go_wp2_with fail
      refine (less_walk b a hb ha).mono ?_
      rintro e wz ⟨rfl, rfl⟩
      rw [decide_eq_false (show ¬ rkB b < rkB a by omega)]
      go_wp2_with fail
      refine (less_walk b c hb hc).mono ?_
      rintro e wz ⟨rfl, rfl⟩
      rw [decide_eq_false (show ¬ rkB b < rkB c by omega)]
      go_wp2_with fail
      refine (less_walk a a ha ha).mono ?_
      rintro e wz ⟨rfl, rfl⟩
      rw [decide_eq_false (show ¬ rkB a < rkB a by omega)]
      go_wp2_with fail
      refine copysign_walk.mono ?_
      rintro e wz ⟨rfl, rfl⟩
      go_wp2_with fail
      refine (less_walk 9223372036854775808 0 (by decide) (by decide)).mono ?_
      rintro e wz ⟨rfl, rfl⟩
      rw [decide_eq_true (show rkB 9223372036854775808 < rkB 0 by decide)]
      go_wp2_with fail
      refine copysign_walk.mono ?_
      rintro e wz ⟨rfl, rfl⟩
      go_wp2_with fail
      refine (less_walk 0 9223372036854775808 (by decide) (by decide)).mono ?_
      rintro e wz ⟨rfl, rfl⟩
      rw [decide_eq_false (show ¬ rkB 0 < rkB 9223372036854775808 by decide)]
      go_wp2_with fail
      refine nan_walk.mono ?_
      rintro e wz ⟨rfl, rfl⟩
      go_wp2_with fail
      refine infDown_walk.mono ?_
      rintro e wz ⟨rfl, rfl⟩
      go_wp2_with fail
      refine (less_walk 9221120237041090561 18442240474082181120 (by decide) (by decide)).mono ?_
      rintro e wz ⟨rfl, rfl⟩
      rw [decide_eq_true (show rkB 9221120237041090561 < rkB 18442240474082181120 by decide)]
      go_wp2_with fail
      go_ret
      exact ⟨rfl, HK.out⟩)
  · have hnb : nanB a = false := by
      cases h : nanB a with
      | false => rfl
      | true =>
        have h1 := Hna.out h
        cases h2 : nanB b with
        | true => have := Hnb.out h2; omega
        | false => have := Hmb.out h2; omega
    rw [hnb] at hsa
    clear Hna Hma Hnb Hmb Hinj hnb heb
    go_enter Tryd.func7, Tryd.ntmps7
    go_wp2_with fail
    refine (meterfirst_walk HT.out).mono ?_
    rintro e w1 ⟨rfl, hk⟩
    have HK := Lib.hid hk
    clear hk
    go_wp2_with fail
    refine (less_walk a b ha hb).mono ?_
    rintro e wz ⟨rfl, rfl⟩
    rw [decide_eq_false (show ¬ rkB a < rkB b by omega)]
    go_wp2_with fail
    refine (less_walk b a hb ha).mono ?_
    rintro e wz ⟨rfl, rfl⟩
    rw [decide_eq_true (show rkB b < rkB a by omega)]
    go_wp2_with fail
    refine (less_walk a a ha ha).mono ?_
    rintro e wz ⟨rfl, rfl⟩
    rw [decide_eq_false (show ¬ rkB a < rkB a by omega)]
    go_wp2_with fail
    refine copysign_walk.mono ?_
    rintro e wz ⟨rfl, rfl⟩
    go_wp2_with fail
    refine (less_walk 9223372036854775808 0 (by decide) (by decide)).mono ?_
    rintro e wz ⟨rfl, rfl⟩
    rw [decide_eq_true (show rkB 9223372036854775808 < rkB 0 by decide)]
    go_wp2_with fail
    refine copysign_walk.mono ?_
    rintro e wz ⟨rfl, rfl⟩
    go_wp2_with fail
    refine (less_walk 0 9223372036854775808 (by decide) (by decide)).mono ?_
    rintro e wz ⟨rfl, rfl⟩
    rw [decide_eq_false (show ¬ rkB 0 < rkB 9223372036854775808 by decide)]
    go_wp2_with fail
    refine nan_walk.mono ?_
    rintro e wz ⟨rfl, rfl⟩
    go_wp2_with fail
    refine infDown_walk.mono ?_
    rintro e wz ⟨rfl, rfl⟩
    go_wp2_with fail
    refine (less_walk 9221120237041090561 18442240474082181120 (by decide) (by decide)).mono ?_
    rintro e wz ⟨rfl, rfl⟩
    rw [decide_eq_true (show rkB 9221120237041090561 < rkB 18442240474082181120 by decide)]
    go_wp2_with fail
    go_ret
    exact ⟨rfl, HK.out⟩
  · cases hna : nanB a with
    | true =>
      have hnb : nanB b = true := by
        cases h2 : nanB b with
        | true => rfl
        | false => have := Hmb.out h2; have := Hna.out hna; omega
      rw [hna] at hsa
      rw [hnb] at hsb heb
      rw [Bool.not_true] at heb
      clear Hna Hma Hnb Hmb Hinj hna hnb
      have HRE := Lib.hid hab
      have hle1 : ¬ rkB a < rkB b := by omega
      have hle2 : ¬ rkB b < rkB a := by omega
      clear hab
      go_enter Tryd.func7, Tryd.ntmps7
      go_wp2_with fail
      refine (meterfirst_walk HT.out).mono ?_
      rintro e w1 ⟨rfl, hk⟩
      have HK := Lib.hid hk
      clear hk
      go_wp2_with fail
      refine (less_walk a b ha hb).mono ?_
      rintro e wz ⟨rfl, rfl⟩
      rw [decide_eq_false (show ¬ rkB a < rkB b by omega)]
      go_wp2_with fail
      refine (less_walk b a hb ha).mono ?_
      rintro e wz ⟨rfl, rfl⟩
      rw [decide_eq_false (show ¬ rkB b < rkB a by omega)]
      go_wp2_with fail
      refine (less_walk a a ha ha).mono ?_
      rintro e wz ⟨rfl, rfl⟩
      rw [decide_eq_false (show ¬ rkB a < rkB a by omega)]
      go_wp2_with fail
      refine copysign_walk.mono ?_
      rintro e wz ⟨rfl, rfl⟩
      go_wp2_with fail
      refine (less_walk 9223372036854775808 0 (by decide) (by decide)).mono ?_
      rintro e wz ⟨rfl, rfl⟩
      rw [decide_eq_true (show rkB 9223372036854775808 < rkB 0 by decide)]
      go_wp2_with fail
      refine copysign_walk.mono ?_
      rintro e wz ⟨rfl, rfl⟩
      go_wp2_with fail
      refine (less_walk 0 9223372036854775808 (by decide) (by decide)).mono ?_
      rintro e wz ⟨rfl, rfl⟩
      rw [decide_eq_false (show ¬ rkB 0 < rkB 9223372036854775808 by decide)]
      go_wp2_with fail
      refine nan_walk.mono ?_
      rintro e wz ⟨rfl, rfl⟩
      go_wp2_with fail
      refine infDown_walk.mono ?_
      rintro e wz ⟨rfl, rfl⟩
      go_wp2_with fail
      refine (less_walk 9221120237041090561 18442240474082181120 (by decide) (by decide)).mono ?_
      rintro e wz ⟨rfl, rfl⟩
      rw [decide_eq_true (show rkB 9221120237041090561 < rkB 18442240474082181120 by decide)]
      go_wp2_with fail
      go_ret
      exact ⟨rfl, HK.out⟩
    | false =>
      have hxy : a = b := Hinj.out hab (.inl hna)
      rw [hna] at hsa
      clear Hna Hma Hnb Hmb Hinj hna hab hsb heb
      subst hxy
      go_enter Tryd.func7, Tryd.ntmps7
      go_wp2_with fail
      refine (meterfirst_walk HT.out).mono ?_
      rintro e w1 ⟨rfl, hk⟩
      have HK := Lib.hid hk
      clear hk
      go_wp2_with fail
      refine (less_walk a a ha ha).mono ?_
      rintro e wz ⟨rfl, rfl⟩
      rw [decide_eq_false (show ¬ rkB a < rkB a by omega)]
      go_wp2_with fail
      refine (less_walk a a ha ha).mono ?_
      rintro e wz ⟨rfl, rfl⟩
      rw [decide_eq_false (show ¬ rkB a < rkB a by omega)]
      go_wp2_with fail
      refine (less_walk a a ha ha).mono ?_
      rintro e wz ⟨rfl, rfl⟩
      rw [decide_eq_false (show ¬ rkB a < rkB a by omega)]
      go_wp2_with fail
      refine copysign_walk.mono ?_
      rintro e wz ⟨rfl, rfl⟩
      go_wp2_with fail
      refine (less_walk 9223372036854775808 0 (by decide) (by decide)).mono ?_
      rintro e wz ⟨rfl, rfl⟩
      rw [decide_eq_true (show rkB 9223372036854775808 < rkB 0 by decide)]
      go_wp2_with fail
      refine copysign_walk.mono ?_
      rintro e wz ⟨rfl, rfl⟩
      go_wp2_with fail
      refine (less_walk 0 9223372036854775808 (by decide) (by decide)).mono ?_
      rintro e wz ⟨rfl, rfl⟩
      rw [decide_eq_false (show ¬ rkB 0 < rkB 9223372036854775808 by decide)]
      go_wp2_with fail
      refine nan_walk.mono ?_
      rintro e wz ⟨rfl, rfl⟩
      go_wp2_with fail
      refine infDown_walk.mono ?_
      rintro e wz ⟨rfl, rfl⟩
      go_wp2_with fail
      refine (less_walk 9221120237041090561 18442240474082181120 (by decide) (by decide)).mono ?_
      rintro e wz ⟨rfl, rfl⟩
      rw [decide_eq_true (show rkB 9221120237041090561 < rkB 18442240474082181120 by decide)]
      go_wp2_with fail
      go_ret
      exact ⟨rfl, HK.out⟩
end Go.Proofs.YtmlfekcnpmlfkaaDoor
