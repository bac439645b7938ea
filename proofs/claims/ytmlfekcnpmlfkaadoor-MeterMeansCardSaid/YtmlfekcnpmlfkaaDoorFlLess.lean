/-
  Less: the program's and the document's.
-/
import Derived.Test.YtmlfekcnpmlfkaaDoorFlTab
namespace Go.Proofs.YtmlfekcnpmlfkaaDoor
set_option linter.unusedSimpArgs false
set_option linter.unusedVariables false
open Go.RowKit

theorem order_f64 (x y : Nat) : FloatKind.f64.format.order x y = if nanB x || nanB y then none else some (compare (keyB x) (keyB y)) := order_key x y
theorem ord_lt (x y : Nat) : (FloatKind.f64.format.order x y == some .lt) = (!nanB x && !nanB y && decide (keyB x < keyB y)) := by
  rw [order_f64]
  cases nanB x <;> cases nanB y <;> simp only [Bool.or_true, Bool.or_false, Bool.or_self, if_true, if_false, Bool.false_eq_true, Bool.not_true, Bool.not_false, Bool.false_and, Bool.true_and] <;> try rfl
  rcases Int.lt_trichotomy (keyB x) (keyB y) with h | h | h
  · rw [cmp_lt h, decide_eq_true h]; rfl
  · rw [cmp_eq h, decide_eq_false (by omega)]; rfl
  · rw [cmp_gt h, decide_eq_false (by omega)]; rfl
theorem ord_gt (x y : Nat) : (FloatKind.f64.format.order x y == some .gt) = (!nanB x && !nanB y && decide (keyB y < keyB x)) := by
  rw [order_f64]
  cases nanB x <;> cases nanB y <;> simp only [Bool.or_true, Bool.or_false, Bool.or_self, if_true, if_false, Bool.false_eq_true, Bool.not_true, Bool.not_false, Bool.false_and, Bool.true_and] <;> try rfl
  rcases Int.lt_trichotomy (keyB x) (keyB y) with h | h | h
  · rw [cmp_lt h, decide_eq_false (by omega)]; rfl
  · rw [cmp_eq h, decide_eq_false (by omega)]; rfl
  · rw [cmp_gt h, decide_eq_true (by omega)]; rfl
theorem ord_eq (x y : Nat) : (FloatKind.f64.format.order x y == some .eq) = (!nanB x && !nanB y && decide (keyB x = keyB y)) := by
  rw [order_f64]
  cases nanB x <;> cases nanB y <;> simp only [Bool.or_true, Bool.or_false, Bool.or_self, if_true, if_false, Bool.false_eq_true, Bool.not_true, Bool.not_false, Bool.false_and, Bool.true_and] <;> try rfl
  rcases Int.lt_trichotomy (keyB x) (keyB y) with h | h | h
  · rw [cmp_lt h, decide_eq_false (by omega)]; rfl
  · rw [cmp_eq h, decide_eq_true (by omega)]; rfl
  · rw [cmp_gt h, decide_eq_false (by omega)]; rfl
theorem ord_self (x : Nat) : (FloatKind.f64.format.order x x != some .eq) = nanB x := by
  rw [bne, ord_eq]
  cases nanB x <;> simp
def zB (x : Nat) : Bool := decide (rgB x = 0)
theorem zB_eq (x : Nat) : (FloatKind.f64.format.order x 0 == some .eq) = (!nanB x && zB x) := by
  rw [ord_eq, show nanB 0 = false from rfl, Bool.not_false, Bool.and_true, show keyB 0 = 0 from rfl]
  congr 1
  unfold zB keyB
  rw [decide_eq_decide]
  split <;> omega
def lessB (a b : Nat) : Bool := if nanB a || nanB b then nanB a && !nanB b else if zB a && zB b then sgB a && !sgB b else decide (keyB a < keyB b)
theorem lessB_rk (a b : Nat) : lessB a b = decide (rkB a < rkB b) := by
  have h1 := rg_lt a
  have h2 := rg_lt b
  unfold lessB rkB keyB zB
  cases nanB a <;> cases nanB b <;> cases sgB a <;> cases sgB b <;> simp only [Bool.or_true, Bool.or_false, Bool.or_self, if_true, if_false, Bool.false_eq_true, Bool.not_true, Bool.not_false, Bool.and_false, Bool.and_true, Bool.and_eq_true, decide_eq_true_eq] <;> (try split) <;> first | (symm; apply decide_eq_true; omega) | (symm; apply decide_eq_false; omega) | (rw [decide_eq_decide]; omega) | rw [decide_eq_decide]
theorem isnan_walk {w : World} (a : Nat) : Calls Tryd.prog 30 #[.float .f64 a] w fun e w' => e = .returned (.bool (nanB a)) ∧ w = w' := by
  have h := ord_self a
  go_enter Tryd.func30, Tryd.ntmps30
  go_wp2_with fail
  go_ret
  exact ⟨rfl, rfl⟩
theorem refnone_walk {w : World} (a : Nat) : Calls Tryd.prog 31 #[.float .f64 a] w fun e w' => e = .returned (.bool (nanB a)) ∧ w = w' := by
  have h := ord_self a
  go_enter Tryd.func31, Tryd.ntmps31
  go_wp2_with fail
  go_ret
  exact ⟨rfl, rfl⟩
theorem mbits_run (b : Nat) (w : World) : (callFunc 32 #[.float .f64 b]).run Tryd.prog w = .ok (.value (.int .u64 b)) w := by
  rw [run_callFunc_extern (fn := Tryd.f32) (e := Go.Extern.MathFloatBits.float64bits) (by kernel_rfl) (by kernel_rfl) (by kernel_rfl) (by kernel_rfl) (by kernel_rfl)]
  rfl
theorem mfrom_run (b : Nat) (w : World) : (callFunc 10 #[.int .u64 b]).run Tryd.prog w = .ok (.value (.float .f64 b)) w := by
  rw [run_callFunc_extern (fn := Tryd.f10) (e := Go.Extern.MathFloatBits.float64frombits) (by kernel_rfl) (by kernel_rfl) (by kernel_rfl) (by kernel_rfl) (by kernel_rfl)]
  rfl
theorem signbit_walk {w : World} (a : Nat) (ha : a < W64) : Calls Tryd.prog 15 #[.float .f64 a] w fun e w' => e = .returned (.bool (sgB a)) ∧ w = w' := by
  have h := mbits_run a
  have hs : decide (wrap64 (a : Int) < 0) = sgB a := by
    unfold sgB
    unfold W64 at ha
    unfold wrap64
    rw [ Bool.eq_iff_iff, decide_eq_true_iff, beq_iff_eq]
    omega
  go_enter Tryd.func15, Tryd.ntmps15
  go_wp2_with fail
  go_ret
  exact ⟨rfl, rfl⟩
theorem less_walk {w : World} (a b : Nat) (ha : a < W64) (hb : b < W64) : Calls Tryd.prog 21 #[.float .f64 a, .float .f64 b] w fun e w' => e = .returned (.bool (decide (rkB a < rkB b))) ∧ w = w' := by
  rw [← lessB_rk]
  have hzz := zB_eq a
  have hzb := zB_eq b
  have hol := ord_lt a b
  unfold lessB
  cases hna : nanB a with
  | true =>
    cases hnb : nanB b <;> (
      clear hzz hzb hol
      have Hna := Lib.hid hna
      have Hnb := Lib.hid hnb
      clear hna hnb
      go_enter Tryd.func21, Tryd.ntmps21
      go_wp2_with fail
      refine (isnan_walk a).mono ?_
      rintro e w1 ⟨rfl, rfl⟩
      rw [Hna.out]
      go_wp2_with fail
      refine (isnan_walk a).mono ?_
      rintro e w1 ⟨rfl, rfl⟩
      rw [Hna.out]
      go_wp2_with fail
      refine (isnan_walk b).mono ?_
      rintro e w1 ⟨rfl, rfl⟩
      rw [Hnb.out]
      go_wp2_with fail
      go_ret
      exact ⟨rfl, rfl⟩)
  | false =>
    cases hnb : nanB b with
    | true =>
      clear hzz hzb hol
      have Hna := Lib.hid hna
      have Hnb := Lib.hid hnb
      clear hna hnb
      go_enter Tryd.func21, Tryd.ntmps21
      go_wp2_with fail
      refine (isnan_walk a).mono ?_
      rintro e w1 ⟨rfl, rfl⟩
      rw [Hna.out]
      go_wp2_with fail
      refine (isnan_walk b).mono ?_
      rintro e w1 ⟨rfl, rfl⟩
      rw [Hnb.out]
      go_wp2_with fail
      refine (isnan_walk a).mono ?_
      rintro e w1 ⟨rfl, rfl⟩
      rw [Hna.out]
      go_wp2_with fail
      go_ret
      exact ⟨rfl, rfl⟩
    | false =>
      rw [hna, Bool.not_false, Bool.true_and] at hzz
      rw [hnb, Bool.not_false, Bool.true_and] at hzb
      rw [hna, hnb] at hol
      have Hna := Lib.hid hna
      have Hnb := Lib.hid hnb
      clear hna hnb
      obtain ⟨za, hza⟩ : ∃ z, zB a = z := ⟨_, rfl⟩
      obtain ⟨zb, hzb2⟩ : ∃ z, zB b = z := ⟨_, rfl⟩
      rw [hza] at hzz ⊢
      rw [hzb2] at hzb ⊢
      simp only [Bool.or_self, Bool.false_eq_true, if_false, Bool.not_false, Bool.true_and] at hol ⊢
      generalize decide (keyB a < keyB b) = kl at hol ⊢
      clear hza hzb2
      have HSA := Lib.hid (fun w => signbit_walk (w := w) a ha)
      have HSB := Lib.hid (fun w => signbit_walk (w := w) b hb)
      generalize sgB a = sa at *
      generalize sgB b = sb at *
      cases za with
      | false =>
        go_enter Tryd.func21, Tryd.ntmps21
        go_wp2_with fail
        refine (isnan_walk a).mono ?_
        rintro e w1 ⟨rfl, rfl⟩
        rw [Hna.out]
        go_wp2_with fail
        refine (isnan_walk b).mono ?_
        rintro e w1 ⟨rfl, rfl⟩
        rw [Hnb.out]
        go_wp2_with fail
        go_ret
        exact ⟨rfl, rfl⟩
      | true =>
        cases zb with
        | false =>
          go_enter Tryd.func21, Tryd.ntmps21
          go_wp2_with fail
          refine (isnan_walk a).mono ?_
          rintro e w1 ⟨rfl, rfl⟩
          rw [Hna.out]
          go_wp2_with fail
          refine (isnan_walk b).mono ?_
          rintro e w1 ⟨rfl, rfl⟩
          rw [Hnb.out]
          go_wp2_with fail
          go_ret
          exact ⟨rfl, rfl⟩
        | true =>
          cases sa <;> cases sb <;> (
            go_enter Tryd.func21, Tryd.ntmps21
            go_wp2_with fail
            refine (isnan_walk a).mono ?_
            rintro e w1 ⟨rfl, rfl⟩
            rw [Hna.out]
            go_wp2_with fail
            refine (isnan_walk b).mono ?_
            rintro e w1 ⟨rfl, rfl⟩
            rw [Hnb.out]
            go_wp2_with fail
            refine (HSA.out _).mono ?_
            rintro e w1 ⟨rfl, rfl⟩
            go_wp2_with fail
            try
              refine (HSB.out _).mono ?_
              rintro e w1 ⟨rfl, rfl⟩
              go_wp2_with fail
            go_ret
            exact ⟨rfl, rfl⟩)
theorem refless_walk {w : World} (a b : Nat) (ha : a < W64) (hb : b < W64) : Calls Tryd.prog 25 #[.float .f64 a, .float .f64 b] w fun e w' => e = .returned (.bool (decide (rkB a < rkB b))) ∧ w = w' := by
  rw [← lessB_rk]
  have hzz := zB_eq a
  have hzb := zB_eq b
  have hol := ord_lt a b
  unfold lessB
  cases hna : nanB a with
  | true =>
    cases hnb : nanB b <;> (
      clear hzz hzb hol
      have Hna := Lib.hid hna
      have Hnb := Lib.hid hnb
      clear hna hnb
      go_enter Tryd.func25, Tryd.ntmps25
      go_wp2_with fail
      refine (refnone_walk a).mono ?_
      rintro e w1 ⟨rfl, rfl⟩
      rw [Hna.out]
      go_wp2_with fail
      refine (refnone_walk a).mono ?_
      rintro e w1 ⟨rfl, rfl⟩
      rw [Hna.out]
      go_wp2_with fail
      refine (refnone_walk b).mono ?_
      rintro e w1 ⟨rfl, rfl⟩
      rw [Hnb.out]
      go_wp2_with fail
      go_ret
      exact ⟨rfl, rfl⟩)
  | false =>
    cases hnb : nanB b with
    | true =>
      clear hzz hzb hol
      have Hna := Lib.hid hna
      have Hnb := Lib.hid hnb
      clear hna hnb
      go_enter Tryd.func25, Tryd.ntmps25
      go_wp2_with fail
      refine (refnone_walk a).mono ?_
      rintro e w1 ⟨rfl, rfl⟩
      rw [Hna.out]
      go_wp2_with fail
      refine (refnone_walk b).mono ?_
      rintro e w1 ⟨rfl, rfl⟩
      rw [Hnb.out]
      go_wp2_with fail
      refine (refnone_walk a).mono ?_
      rintro e w1 ⟨rfl, rfl⟩
      rw [Hna.out]
      go_wp2_with fail
      go_ret
      exact ⟨rfl, rfl⟩
    | false =>
      rw [hna, Bool.not_false, Bool.true_and] at hzz
      rw [hnb, Bool.not_false, Bool.true_and] at hzb
      rw [hna, hnb] at hol
      have Hna := Lib.hid hna
      have Hnb := Lib.hid hnb
      clear hna hnb
      obtain ⟨za, hza⟩ : ∃ z, zB a = z := ⟨_, rfl⟩
      obtain ⟨zb, hzb2⟩ : ∃ z, zB b = z := ⟨_, rfl⟩
      rw [hza] at hzz ⊢
      rw [hzb2] at hzb ⊢
      simp only [Bool.or_self, Bool.false_eq_true, if_false, Bool.not_false, Bool.true_and] at hol ⊢
      generalize decide (keyB a < keyB b) = kl at hol ⊢
      clear hza hzb2
      have HSA := Lib.hid (fun w => signbit_walk (w := w) a ha)
      have HSB := Lib.hid (fun w => signbit_walk (w := w) b hb)
      generalize sgB a = sa at *
      generalize sgB b = sb at *
      cases za with
      | false =>
        go_enter Tryd.func25, Tryd.ntmps25
        go_wp2_with fail
        refine (refnone_walk a).mono ?_
        rintro e w1 ⟨rfl, rfl⟩
        rw [Hna.out]
        go_wp2_with fail
        refine (refnone_walk b).mono ?_
        rintro e w1 ⟨rfl, rfl⟩
        rw [Hnb.out]
        go_wp2_with fail
        go_ret
        exact ⟨rfl, rfl⟩
      | true =>
        cases zb with
        | false =>
          go_enter Tryd.func25, Tryd.ntmps25
          go_wp2_with fail
          refine (refnone_walk a).mono ?_
          rintro e w1 ⟨rfl, rfl⟩
          rw [Hna.out]
          go_wp2_with fail
          refine (refnone_walk b).mono ?_
          rintro e w1 ⟨rfl, rfl⟩
          rw [Hnb.out]
          go_wp2_with fail
          go_ret
          exact ⟨rfl, rfl⟩
        | true =>
          cases sa <;> cases sb <;> (
            go_enter Tryd.func25, Tryd.ntmps25
            go_wp2_with fail
            refine (refnone_walk a).mono ?_
            rintro e w1 ⟨rfl, rfl⟩
            rw [Hna.out]
            go_wp2_with fail
            refine (refnone_walk b).mono ?_
            rintro e w1 ⟨rfl, rfl⟩
            rw [Hnb.out]
            go_wp2_with fail
            refine (HSA.out _).mono ?_
            rintro e w1 ⟨rfl, rfl⟩
            go_wp2_with fail
            try
              refine (HSB.out _).mono ?_
              rintro e w1 ⟨rfl, rfl⟩
              go_wp2_with fail
            go_ret
            exact ⟨rfl, rfl⟩)
end Go.Proofs.YtmlfekcnpmlfkaaDoor
