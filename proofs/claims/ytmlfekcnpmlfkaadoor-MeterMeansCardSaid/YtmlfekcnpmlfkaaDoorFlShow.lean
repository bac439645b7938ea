/-
  Show.
-/
import Derived.Test.YtmlfekcnpmlfkaaDoorFlRate
namespace Go.Proofs.YtmlfekcnpmlfkaaDoor
set_option linter.unusedSimpArgs false
set_option linter.unusedVariables false
open Go.RowKit

def showB (a : Nat) : ByteArray := if nanB a then ⟨#[110, 97, 110]⟩ else if rgB a = 9218868437227405312 then (if sgB a then ⟨#[45, 105, 110, 102]⟩ else ⟨#[43, 105, 110, 102]⟩) else if a = 9223372036854775808 then ⟨#[45, 48]⟩ else strOfNums (textO a)
set_option maxRecDepth 20000 in
theorem show_walk {w : World} (ht : Tabs w) (a : Nat) (ha : a < W64) : Calls Tryd.prog 19 #[.float .f64 a] w fun e w' => e = .returned (.string (showB a)) ∧ Keeps Nil w w' := by
  have hrl := rg_lt a
  have hz := zB_eq a
  unfold showB
  cases hn : nanB a with
  | true =>
    rw [if_pos rfl]
    have hn := Lib.hid hn
    clear ht hz hrl
    go_enter Tryd.func19, Tryd.ntmps19
    go_wp2_with fail
    refine (isnan_walk a).mono ?_
    rintro e wz ⟨rfl, rfl⟩
    rw [hn.out]
    go_wp2_with fail
    go_ret
    exact ⟨rfl, Keeps.refl _ _⟩
  | false =>
    rw [if_neg (by decide)]
    rw [hn, Bool.not_false, Bool.true_and] at hz
    have hle : ¬ 9218868437227405312 < rgB a := by unfold nanB at hn; exact of_decide_eq_false hn
    have hn0 := hn
    have hn := Lib.hid hn
    by_cases hi : rgB a = 9218868437227405312
    · rw [if_pos hi]
      cases hs : sgB a with
      | true =>
        rw [if_pos rfl]
        have hup : Hid ((!nanB a && decide (9218868437227405311 < keyB a)) = false) := Lib.hid (by unfold keyB; rw [hs, if_pos rfl, decide_eq_false (by omega), Bool.and_false])
        have hdn : Hid ((!nanB a && decide (keyB a < -9218868437227405311)) = true) := Lib.hid (by unfold keyB; rw [hn0, hs, if_pos rfl, decide_eq_true (by omega)]; rfl)
        clear ht hz hrl hi hs hle hn0
        go_enter Tryd.func19, Tryd.ntmps19
        go_wp2_with fail
        refine (isnan_walk a).mono ?_
        rintro e wz ⟨rfl, rfl⟩
        rw [hn.out]
        go_wp2_with fail
        refine (isinfUp_walk a).mono ?_
        rintro e wz ⟨rfl, rfl⟩
        rw [hup.out]
        go_wp2_with fail
        refine (isinfDown_walk a ha).mono ?_
        rintro e wz ⟨rfl, rfl⟩
        rw [hdn.out]
        go_wp2_with fail
        go_ret
        exact ⟨rfl, Keeps.refl _ _⟩
      | false =>
        rw [if_neg (by decide)]
        have hup : Hid ((!nanB a && decide (9218868437227405311 < keyB a)) = true) := Lib.hid (by unfold keyB; rw [hn0, hs, if_neg (by decide), decide_eq_true (by omega)]; rfl)
        clear ht hz hrl hi hs hle hn0
        go_enter Tryd.func19, Tryd.ntmps19
        go_wp2_with fail
        refine (isnan_walk a).mono ?_
        rintro e wz ⟨rfl, rfl⟩
        rw [hn.out]
        go_wp2_with fail
        refine (isinfUp_walk a).mono ?_
        rintro e wz ⟨rfl, rfl⟩
        rw [hup.out]
        go_wp2_with fail
        go_ret
        exact ⟨rfl, Keeps.refl _ _⟩
    · rw [if_neg hi]
      have hup : Hid ((!nanB a && decide (9218868437227405311 < keyB a)) = false) := Lib.hid (by unfold keyB; rw [decide_eq_false (by split <;> omega), Bool.and_false])
      have hdn : Hid ((!nanB a && decide (keyB a < -9218868437227405311)) = false) := Lib.hid (by unfold keyB; rw [decide_eq_false (by split <;> omega), Bool.and_false])
      have hex : exB a ≠ 2047 := by unfold exB; unfold rgB at hle hi; omega
      by_cases h63 : a = 9223372036854775808
      · rw [if_pos h63]
        rw [show zB a = true by rw [h63]; decide] at hz
        have HS := Lib.hid (fun w => signbit_walk (w := w) a ha)
        rw [show sgB a = true by rw [h63]; decide] at HS
        clear ht hrl hi hle hn0 hex h63
        go_enter Tryd.func19, Tryd.ntmps19
        go_wp2_with fail
        refine (isnan_walk a).mono ?_
        rintro e wz ⟨rfl, rfl⟩
        rw [hn.out]
        go_wp2_with fail
        refine (isinfUp_walk a).mono ?_
        rintro e wz ⟨rfl, rfl⟩
        rw [hup.out]
        go_wp2_with fail
        refine (isinfDown_walk a ha).mono ?_
        rintro e wz ⟨rfl, rfl⟩
        rw [hdn.out]
        go_wp2_with fail
        refine (HS.out _).mono ?_
        rintro e wz ⟨rfl, rfl⟩
        go_wp2_with fail
        go_ret
        exact ⟨rfl, Keeps.refl _ _⟩
      · rw [if_neg h63]
        have HF := Lib.hid (ff_walk ht a ha hex h63)
        generalize strOfNums (textO a) = T at *
        cases hza : zB a with
        | true =>
          have HS := Lib.hid (fun w => signbit_walk (w := w) a ha)
          rw [show sgB a = false by unfold zB rgB at hza; rw [decide_eq_true_eq] at hza; unfold W64 at ha; unfold sgB; rw [show a = 0 by omega]; rfl] at HS
          rw [hza] at hz
          clear ht hrl hi hle hn0 hex h63 hza
          go_enter Tryd.func19, Tryd.ntmps19
          go_wp2_with fail
          refine (isnan_walk a).mono ?_
          rintro e wz ⟨rfl, rfl⟩
          rw [hn.out]
          go_wp2_with fail
          refine (isinfUp_walk a).mono ?_
          rintro e wz ⟨rfl, rfl⟩
          rw [hup.out]
          go_wp2_with fail
          refine (isinfDown_walk a ha).mono ?_
          rintro e wz ⟨rfl, rfl⟩
          rw [hdn.out]
          go_wp2_with fail
          refine (HS.out _).mono ?_
          rintro e wz ⟨rfl, rfl⟩
          go_wp2_with fail
          refine HF.out.mono ?_
          rintro e wz ⟨rfl, hk⟩
          have HK := Lib.hid hk
          clear hk
          go_wp2_with fail
          go_ret
          exact ⟨rfl, HK.out⟩
        | false =>
          rw [hza] at hz
          clear ht hrl hi hle hn0 hex h63 hza
          go_enter Tryd.func19, Tryd.ntmps19
          go_wp2_with fail
          refine (isnan_walk a).mono ?_
          rintro e wz ⟨rfl, rfl⟩
          rw [hn.out]
          go_wp2_with fail
          refine (isinfUp_walk a).mono ?_
          rintro e wz ⟨rfl, rfl⟩
          rw [hup.out]
          go_wp2_with fail
          refine (isinfDown_walk a ha).mono ?_
          rintro e wz ⟨rfl, rfl⟩
          rw [hdn.out]
          go_wp2_with fail
          refine HF.out.mono ?_
          rintro e wz ⟨rfl, hk⟩
          have HK := Lib.hid hk
          clear hk
          go_wp2_with fail
          go_ret
          exact ⟨rfl, HK.out⟩
end Go.Proofs.YtmlfekcnpmlfkaaDoor
