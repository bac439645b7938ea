/-
  Clamp, Same; MeterClamps.
-/
import Derived.Test.YtmlfekcnpmlfkaaDoorFlFirst
namespace Go.Proofs.YtmlfekcnpmlfkaaDoor
set_option linter.unusedSimpArgs false
set_option linter.unusedVariables false
open Go.RowKit

def clampB (x lo hi : Nat) : Nat := if rkB x < rkB lo then lo else if rkB hi < rkB x then hi else x
def sameB (a b : Nat) : Bool := (nanB a && nanB b) || (a == b)
theorem same_refl (a : Nat) : sameB a a = true := by unfold sameB; simp
theorem clamp_walk {w : World} (x lo hi : Nat) (hx : x < W64) (hl : lo < W64) (hh : hi < W64) : Calls Tryd.prog 20 #[.float .f64 x, .float .f64 lo, .float .f64 hi] w fun e w' => e = .returned (.float .f64 (clampB x lo hi)) ∧ w = w' := by
  unfold clampB
  by_cases h1 : rkB x < rkB lo
  · rw [if_pos h1]
    go_enter Tryd.func20, Tryd.ntmps20
    go_wp2_with fail
    refine (less_walk x lo hx hl).mono ?_
    rintro e wz ⟨rfl, rfl⟩
    rw [decide_eq_true (show rkB x < rkB lo by omega)]
    go_wp2_with fail
    go_ret
    exact ⟨rfl, rfl⟩
  · rw [if_neg h1]
    by_cases h2 : rkB hi < rkB x
    · rw [if_pos h2]
      go_enter Tryd.func20, Tryd.ntmps20
      go_wp2_with fail
      refine (less_walk x lo hx hl).mono ?_
      rintro e wz ⟨rfl, rfl⟩
      rw [decide_eq_false (show ¬ rkB x < rkB lo by omega)]
      go_wp2_with fail
      refine (less_walk hi x hh hx).mono ?_
      rintro e wz ⟨rfl, rfl⟩
      rw [decide_eq_true (show rkB hi < rkB x by omega)]
      go_wp2_with fail
      go_ret
      exact ⟨rfl, rfl⟩
    · rw [if_neg h2]
      go_enter Tryd.func20, Tryd.ntmps20
      go_wp2_with fail
      refine (less_walk x lo hx hl).mono ?_
      rintro e wz ⟨rfl, rfl⟩
      rw [decide_eq_false (show ¬ rkB x < rkB lo by omega)]
      go_wp2_with fail
      refine (less_walk hi x hh hx).mono ?_
      rintro e wz ⟨rfl, rfl⟩
      rw [decide_eq_false (show ¬ rkB hi < rkB x by omega)]
      go_wp2_with fail
      go_ret
      exact ⟨rfl, rfl⟩
theorem same_walk {w : World} (a b : Nat) : Calls Tryd.prog 14 #[.float .f64 a, .float .f64 b] w fun e w' => e = .returned (.bool (sameB a b)) ∧ w = w' := by
  have hba := mbits_run a
  have hbb := mbits_run b
  have heq : ((a : Int) == (b : Int)) = (a == b) := by rw [Bool.eq_iff_iff, beq_iff_eq, beq_iff_eq]; omega
  have HNA := Lib.hid (fun w => refnone_walk (w := w) a)
  have HNB := Lib.hid (fun w => refnone_walk (w := w) b)
  unfold sameB
  generalize (a == b) = q at *
  generalize nanB a = na at *
  generalize nanB b = nb at *
  cases na with
  | false =>
    go_enter Tryd.func14, Tryd.ntmps14
    go_wp2_with fail
    refine (HNA.out _).mono ?_
    rintro e wz ⟨rfl, rfl⟩
    go_wp2_with fail
    go_ret
    exact ⟨rfl, rfl⟩
  | true =>
    cases nb <;> (
      go_enter Tryd.func14, Tryd.ntmps14
      go_wp2_with fail
      refine (HNA.out _).mono ?_
      rintro e wz ⟨rfl, rfl⟩
      go_wp2_with fail
      refine (HNB.out _).mono ?_
      rintro e wz ⟨rfl, rfl⟩
      go_wp2_with fail
      go_ret
      exact ⟨rfl, rfl⟩)
theorem wf_u64N {x : Int} (h : (Lit.int .u64 x).wf = true) : ∃ a : Nat, x = a ∧ a < W64 := by
  simp [Lit.wf, IntKind.min, IntKind.max, IntKind.signed, IntKind.bits] at h
  exact ⟨x.toNat, by omega, by unfold W64; omega⟩
set_option maxRecDepth 20000 in
set_option maxHeartbeats 1600000 in
theorem meterClamps_walk (x lo hi : Int) (w : World) (wx : (Lit.int .u64 x).wf = true) (wl : (Lit.int .u64 lo).wf = true) (wh : (Lit.int .u64 hi).wf = true) (ht : Tabs w) :
    Calls Tryd.prog 6 #[.int .u64 x, .int .u64 lo, .int .u64 hi] w fun e w' => e = .returned (.bool true) ∧ Keeps Nil w w' := by
  obtain ⟨a, rfl, ha⟩ := wf_u64N wx
  obtain ⟨b, rfl, hb⟩ := wf_u64N wl
  obtain ⟨c, rfl, hc⟩ := wf_u64N wh
  have HT := Lib.hid ht
  have hfa := mfrom_run a
  have hfb := mfrom_run b
  have hfc := mfrom_run c
  clear ht wx wl wh
  by_cases h0 : rkB c < rkB b
  · by_cases h1 : rkB a < rkB c
    · go_enter Tryd.func6, Tryd.ntmps6
      go_wp2_with fail
      refine (meterfirst_walk HT.out).mono ?_
      rintro e w1 ⟨rfl, hk⟩
      have HK := Lib.hid hk
      clear hk
      go_wp2_with fail
      refine (less_walk c b hc hb).mono ?_
      rintro e wz ⟨rfl, rfl⟩
      rw [decide_eq_true (show rkB c < rkB b by omega)]
      go_wp2_with fail
      refine (clamp_walk a c b ha hc hb).mono ?_
      rintro e wz ⟨rfl, rfl⟩
      rw [show clampB a c b = c by unfold clampB; rw [if_pos (by omega)]]
      go_wp2_with fail
      refine (less_walk a c ha hc).mono ?_
      rintro e wz ⟨rfl, rfl⟩
      rw [decide_eq_true (show rkB a < rkB c by omega)]
      go_wp2_with fail
      refine (less_walk c c hc hc).mono ?_
      rintro e wz ⟨rfl, rfl⟩
      rw [decide_eq_false (show ¬ rkB c < rkB c by omega)]
      go_wp2_with fail
      refine (less_walk b c hb hc).mono ?_
      rintro e wz ⟨rfl, rfl⟩
      rw [decide_eq_false (show ¬ rkB b < rkB c by omega)]
      go_wp2_with fail
      refine (clamp_walk c c b hc hc hb).mono ?_
      rintro e wz ⟨rfl, rfl⟩
      rw [show clampB c c b = c by unfold clampB; rw [if_neg (by omega), if_neg (by omega)]]
      go_wp2_with fail
      refine (same_walk c c).mono ?_
      rintro e wz ⟨rfl, rfl⟩
      rw [same_refl]
      go_wp2_with fail
      go_ret
      exact ⟨rfl, HK.out⟩
    · by_cases h2 : rkB b < rkB a
      · go_enter Tryd.func6, Tryd.ntmps6
        go_wp2_with fail
        refine (meterfirst_walk HT.out).mono ?_
        rintro e w1 ⟨rfl, hk⟩
        have HK := Lib.hid hk
        clear hk
        go_wp2_with fail
        refine (less_walk c b hc hb).mono ?_
        rintro e wz ⟨rfl, rfl⟩
        rw [decide_eq_true (show rkB c < rkB b by omega)]
        go_wp2_with fail
        refine (clamp_walk a c b ha hc hb).mono ?_
        rintro e wz ⟨rfl, rfl⟩
        rw [show clampB a c b = b by unfold clampB; rw [if_neg (by omega), if_pos (by omega)]]
        go_wp2_with fail
        refine (less_walk a c ha hc).mono ?_
        rintro e wz ⟨rfl, rfl⟩
        rw [decide_eq_false (show ¬ rkB a < rkB c by omega)]
        go_wp2_with fail
        refine (less_walk b a hb ha).mono ?_
        rintro e wz ⟨rfl, rfl⟩
        rw [decide_eq_true (show rkB b < rkB a by omega)]
        go_wp2_with fail
        refine (less_walk b c hb hc).mono ?_
        rintro e wz ⟨rfl, rfl⟩
        rw [decide_eq_false (show ¬ rkB b < rkB c by omega)]
        go_wp2_with fail
        refine (less_walk b b hb hb).mono ?_
        rintro e wz ⟨rfl, rfl⟩
        rw [decide_eq_false (show ¬ rkB b < rkB b by omega)]
        go_wp2_with fail
        refine (clamp_walk b c b hb hc hb).mono ?_
        rintro e wz ⟨rfl, rfl⟩
        rw [show clampB b c b = b by unfold clampB; rw [if_neg (by omega), if_neg (by omega)]]
        go_wp2_with fail
        refine (same_walk b b).mono ?_
        rintro e wz ⟨rfl, rfl⟩
        rw [same_refl]
        go_wp2_with fail
        go_ret
        exact ⟨rfl, HK.out⟩
      · go_enter Tryd.func6, Tryd.ntmps6
        go_wp2_with fail
        refine (meterfirst_walk HT.out).mono ?_
        rintro e w1 ⟨rfl, hk⟩
        have HK := Lib.hid hk
        clear hk
        go_wp2_with fail
        refine (less_walk c b hc hb).mono ?_
        rintro e wz ⟨rfl, rfl⟩
        rw [decide_eq_true (show rkB c < rkB b by omega)]
        go_wp2_with fail
        refine (clamp_walk a c b ha hc hb).mono ?_
        rintro e wz ⟨rfl, rfl⟩
        rw [show clampB a c b = a by unfold clampB; rw [if_neg (by omega), if_neg (by omega)]]
        go_wp2_with fail
        refine (less_walk a c ha hc).mono ?_
        rintro e wz ⟨rfl, rfl⟩
        rw [decide_eq_false (show ¬ rkB a < rkB c by omega)]
        go_wp2_with fail
        refine (less_walk b a hb ha).mono ?_
        rintro e wz ⟨rfl, rfl⟩
        rw [decide_eq_false (show ¬ rkB b < rkB a by omega)]
        go_wp2_with fail
        refine (less_walk a c ha hc).mono ?_
        rintro e wz ⟨rfl, rfl⟩
        rw [decide_eq_false (show ¬ rkB a < rkB c by omega)]
        go_wp2_with fail
        refine (less_walk b a hb ha).mono ?_
        rintro e wz ⟨rfl, rfl⟩
        rw [decide_eq_false (show ¬ rkB b < rkB a by omega)]
        go_wp2_with fail
        refine (same_walk a a).mono ?_
        rintro e wz ⟨rfl, rfl⟩
        rw [same_refl]
        go_wp2_with fail
        refine (clamp_walk a c b ha hc hb).mono ?_
        rintro e wz ⟨rfl, rfl⟩
        rw [show clampB a c b = a by unfold clampB; rw [if_neg (by omega), if_neg (by omega)]]
        go_wp2_with fail
        refine (same_walk a a).mono ?_
        rintro e wz ⟨rfl, rfl⟩
        rw [same_refl]
        go_wp2_with fail
        go_ret
        exact ⟨rfl, HK.out⟩
  · by_cases h1 : rkB a < rkB b
    · go_enter Tryd.func6, Tryd.ntmps6
      go_wp2_with fail
      refine (meterfirst_walk HT.out).mono ?_
      rintro e w1 ⟨rfl, hk⟩
      have HK := Lib.hid hk
      clear hk
      go_wp2_with fail
      refine (less_walk c b hc hb).mono ?_
      rintro e wz ⟨rfl, rfl⟩
      rw [decide_eq_false (show ¬ rkB c < rkB b by omega)]
      go_wp2_with fail
      refine (clamp_walk a b c ha hb hc).mono ?_
      rintro e wz ⟨rfl, rfl⟩
      rw [show clampB a b c = b by unfold clampB; rw [if_pos (by omega)]]
      go_wp2_with fail
      refine (less_walk a b ha hb).mono ?_
      rintro e wz ⟨rfl, rfl⟩
      rw [decide_eq_true (show rkB a < rkB b by omega)]
      go_wp2_with fail
      refine (less_walk b b hb hb).mono ?_
      rintro e wz ⟨rfl, rfl⟩
      rw [decide_eq_false (show ¬ rkB b < rkB b by omega)]
      go_wp2_with fail
      refine (less_walk c b hc hb).mono ?_
      rintro e wz ⟨rfl, rfl⟩
      rw [decide_eq_false (show ¬ rkB c < rkB b by omega)]
      go_wp2_with fail
      refine (clamp_walk b b c hb hb hc).mono ?_
      rintro e wz ⟨rfl, rfl⟩
      rw [show clampB b b c = b by unfold clampB; rw [if_neg (by omega), if_neg (by omega)]]
      go_wp2_with fail
      refine (same_walk b b).mono ?_
      rintro e wz ⟨rfl, rfl⟩
      rw [same_refl]
      go_wp2_with fail
      go_ret
      exact ⟨rfl, HK.out⟩
    · by_cases h2 : rkB c < rkB a
      · go_enter Tryd.func6, Tryd.ntmps6
        go_wp2_with fail
        refine (meterfirst_walk HT.out).mono ?_
        rintro e w1 ⟨rfl, hk⟩
        have HK := Lib.hid hk
        clear hk
        go_wp2_with fail
        refine (less_walk c b hc hb).mono ?_
        rintro e wz ⟨rfl, rfl⟩
        rw [decide_eq_false (show ¬ rkB c < rkB b by omega)]
        go_wp2_with fail
        refine (clamp_walk a b c ha hb hc).mono ?_
        rintro e wz ⟨rfl, rfl⟩
        rw [show clampB a b c = c by unfold clampB; rw [if_neg (by omega), if_pos (by omega)]]
        go_wp2_with fail
        refine (less_walk a b ha hb).mono ?_
        rintro e wz ⟨rfl, rfl⟩
        rw [decide_eq_false (show ¬ rkB a < rkB b by omega)]
        go_wp2_with fail
        refine (less_walk c a hc ha).mono ?_
        rintro e wz ⟨rfl, rfl⟩
        rw [decide_eq_true (show rkB c < rkB a by omega)]
        go_wp2_with fail
        refine (less_walk c b hc hb).mono ?_
        rintro e wz ⟨rfl, rfl⟩
        rw [decide_eq_false (show ¬ rkB c < rkB b by omega)]
        go_wp2_with fail
        refine (less_walk c c hc hc).mono ?_
        rintro e wz ⟨rfl, rfl⟩
        rw [decide_eq_false (show ¬ rkB c < rkB c by omega)]
        go_wp2_with fail
        refine (clamp_walk c b c hc hb hc).mono ?_
        rintro e wz ⟨rfl, rfl⟩
        rw [show clampB c b c = c by unfold clampB; rw [if_neg (by omega), if_neg (by omega)]]
        go_wp2_with fail
        refine (same_walk c c).mono ?_
        rintro e wz ⟨rfl, rfl⟩
        rw [same_refl]
        go_wp2_with fail
        go_ret
        exact ⟨rfl, HK.out⟩
      · go_enter Tryd.func6, Tryd.ntmps6
        go_wp2_with fail
        refine (meterfirst_walk HT.out).mono ?_
        rintro e w1 ⟨rfl, hk⟩
        have HK := Lib.hid hk
        clear hk
        go_wp2_with fail
        refine (less_walk c b hc hb).mono ?_
        rintro e wz ⟨rfl, rfl⟩
        rw [decide_eq_false (show ¬ rkB c < rkB b by omega)]
        go_wp2_with fail
        refine (clamp_walk a b c ha hb hc).mono ?_
        rintro e wz ⟨rfl, rfl⟩
        rw [show clampB a b c = a by unfold clampB; rw [if_neg (by omega), if_neg (by omega)]]
        go_wp2_with fail
        refine (less_walk a b ha hb).mono ?_
        rintro e wz ⟨rfl, rfl⟩
        rw [decide_eq_false (show ¬ rkB a < rkB b by omega)]
        go_wp2_with fail
        refine (less_walk c a hc ha).mono ?_
        rintro e wz ⟨rfl, rfl⟩
        rw [decide_eq_false (show ¬ rkB c < rkB a by omega)]
        go_wp2_with fail
        refine (less_walk a b ha hb).mono ?_
        rintro e wz ⟨rfl, rfl⟩
        rw [decide_eq_false (show ¬ rkB a < rkB b by omega)]
        go_wp2_with fail
        refine (less_walk c a hc ha).mono ?_
        rintro e wz ⟨rfl, rfl⟩
        rw [decide_eq_false (show ¬ rkB c < rkB a by omega)]
        go_wp2_with fail
        refine (same_walk a a).mono ?_
        rintro e wz ⟨rfl, rfl⟩
        rw [same_refl]
        go_wp2_with fail
        refine (clamp_walk a b c ha hb hc).mono ?_
        rintro e wz ⟨rfl, rfl⟩
        rw [show clampB a b c = a by unfold clampB; rw [if_neg (by omega), if_neg (by omega)]]
        go_wp2_with fail
        refine (same_walk a a).mono ?_
        rintro e wz ⟨rfl, rfl⟩
        rw [same_refl]
        go_wp2_with fail
        go_ret
        exact ⟨rfl, HK.out⟩
end Go.Proofs.YtmlfekcnpmlfkaaDoor
