/-
  TreeSplits: the greatest power of two below: twice as much is not below.
-/
import Derived.Test.YtmbdldnldcgdjaaTreeFirst
import Derived.Test.YtmbdldnldcgdjaaNumber
namespace Go.Proofs.Ytmbdldnldcgdjaa
set_option linter.unusedSimpArgs false
set_option linter.unusedVariables false
open Go.RowKit

set_option maxHeartbeats 1600000 in
theorem treeSplits_walk (n : Int) (w : World) (hn : (Lit.int .i64 n).wf = true) : Calls Try.prog 6 #[.int .i64 n] w (TrueS w) := by
  have hw := i64_wf hn
  obtain ⟨m, hm⟩ : ∃ m : Nat, n % 1073741824 = m := ⟨(n % 1073741824).toNat, by omega⟩
  have HN := Lib.hid (fun w => number_walk n 1073741824 w hw.1 hw.2 (by omega) (by omega))
  have hm1 : m < 1073741824 := by omega
  rw [hm] at HN
  have HS := Lib.hid (fun w => split_walk (m : Int) w (by omega) (by omega))
  have HT := Lib.hid (fun w => split_walk (-(m : Int)) w (by omega) (by omega))
  rw [show ((m : Int)).toNat = m by omega] at HS
  rw [show splitN (-(m : Int)).toNat = 0 from splitN_small (by omega)] at HT
  clear hm hw hn
  go_enter Try.func6, Try.ntmps6
  go_wp2_with fail
  refine (treefirst_walk w).mono ?_
  rintro e w1 ⟨rfl, hk1⟩
  go_wp2_with fail
  refine (HN.out _).mono ?_
  rintro e w2 ⟨rfl, rfl⟩
  go_wp2_with fail
  refine (HS.out _).mono ?_
  rintro e w2 ⟨rfl, rfl⟩
  clear HN HS
  by_cases h2 : m < 2
  · have hs : splitN m = 0 := splitN_small h2
    rw [hs]
    have h2' : (m : Int) < 2 := by omega
    go_wp2_with fail
    go_ret
    exact ⟨by first | rfl | simp, hk1⟩
  · have h2' : ¬ (m : Int) < 2 := by omega
    have HM := Lib.hid (show 1 ≤ splitN m ∧ splitN m < m ∧ m ≤ 2 * splitN m from ⟨splitN_pos (by omega), splitN_lt (by omega), splitN_most (by omega)⟩)
    have HE := Lib.hid (fun j => @splitN_eq m j)
    generalize splitN m = s at *
    go_wp2_with fail
    go_loopw [5] (fun v wr => ∃ (k : Nat), v = .int .i64 k ∧ k < m ∧ Hid (∃ j : Nat, k = 2 ^ j) ∧ w1 = wr) (fun v _ => m - (intOf v).toNat)
    case atStart => exact ⟨1, rfl, by omega, Lib.hid ⟨0, rfl⟩, rfl⟩
    case round =>
      obtain ⟨k, rfl, hk, hj, rfl⟩ := hrel
      have hk1' : 1 ≤ k := by obtain ⟨j, hj⟩ := hj.out; rw [hj]; exact Nat.one_le_two_pow
      by_cases hlt : 2 * k < m
      · have hn : Hid (∃ j : Nat, 2 * k = 2 ^ j) := by
          obtain ⟨j, hj⟩ := hj.out
          exact Lib.hid ⟨j + 1, by rw [hj, Nat.pow_succ]; omega⟩
        clear hj
        have e1 : (2 * (k : Int) < (m : Int)) := by omega
        go_wp2_with fail
        exact ⟨⟨2 * k, by go_num, hlt, hn, by simp⟩, by simp [intOf]; omega⟩
      · have hs : s = k := by
          obtain ⟨j, hj⟩ := hj.out
          rw [hj] at hlt hk ⊢
          exact HE.out j hk (by omega)
        subst hs
        clear hj HE HM
        have e1 : ¬ (2 * (s : Int) < (m : Int)) := by omega
        go_wp2_with fail
        refine (HT.out _).mono ?_
        rintro e w3 ⟨rfl, rfl⟩
        go_wp2_with fail
        go_ret
        exact ⟨by first | rfl | simp, hk1⟩
end Go.Proofs.Ytmbdldnldcgdjaa
