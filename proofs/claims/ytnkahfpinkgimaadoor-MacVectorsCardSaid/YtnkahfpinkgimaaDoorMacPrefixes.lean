/-
  The law MacPrefixes.
-/
import Derived.Test.YtnkahfpinkgimaaDoorMacEq
namespace Go.Proofs.YtnkahfpinkgimaaDoor
set_option linter.unusedSimpArgs false
set_option linter.unusedVariables false
open Go.RowKit

theorem PieceOk.of_isRow {w : World} {a : Option Addr} {len cap : Nat} {z : List Int} (h : IsRow .u8 w a len cap z) : PieceOk w (a, len, cap, z.take len) := ⟨Row.of_isRow h, fun e => h.nil e⟩
theorem sameL_self (l : List Int) : sameL l l = true := by simp [sameL]
/-- A remainder as a number. -/
theorem modNat (n b : Int) (hb : 1 ≤ b) : ∃ m : Nat, n % b = m ∧ (m : Int) < b := ⟨(n % b).toNat, by have := Int.emod_nonneg n (show b ≠ 0 by omega); omega, by have := Int.emod_nonneg n (show b ≠ 0 by omega); have := Int.emod_lt_of_pos n (show 0 < b by omega); omega⟩

set_option maxRecDepth 20000 in
set_option maxHeartbeats 3200000 in
theorem macPrefixes_walk (a0 : Option Addr) (len0 cap0 : Nat) (z0 : List Int) (a1 : Option Addr) (len1 cap1 : Nat) (z1 : List Int) (a2 : Option Addr) (len2 cap2 : Nat) (z2 : List Int) (a3 a4 : Int) (w : World) (w0 : IsRow .u8 w a0 len0 cap0 z0) (w1 : IsRow .u8 w a1 len1 cap1 z1) (w2 : IsRow .u8 w a2 len2 cap2 z2) (w3 : (Lit.int .i64 a3).wf = true) (w4 : (Lit.int .i64 a4).wf = true) :
    Calls Tryd.prog 6 #[.slice a0 len0 cap0, .slice a1 len1 cap1, .slice a2 len2 cap2, .int .i64 a3, .int .i64 a4] w (TrueS w) := by
  have hn := i64_wf w3
  have hm := i64_wf w4
  have p0 := PieceOk.of_isRow w0
  have p1 := PieceOk.of_isRow w1
  have p2 := PieceOk.of_isRow w2
  clear w0 w1 w2 w3 w4
  have m0 : len0 ≤ 9223372036854775807 := p0.1.most
  have m1 : len1 ≤ 9223372036854775807 := p1.1.most
  have m2 : len2 ≤ 9223372036854775807 := p2.1.most
  by_cases b0 : 100 < len0
  · clear p0 p1 p2
    go_enter Tryd.func6, Tryd.ntmps6
    go_wp2_with fail
    refine (macfirst_walk w).mono ?_
    rintro e w1 ⟨rfl, hk1⟩
    go_wp2_with fail
    go_ret
    exact ⟨by first | rfl | simp, hk1⟩
  by_cases b1 : 100 < len1
  · clear p0 p1 p2
    go_enter Tryd.func6, Tryd.ntmps6
    go_wp2_with fail
    refine (macfirst_walk w).mono ?_
    rintro e w1 ⟨rfl, hk1⟩
    go_wp2_with fail
    go_ret
    exact ⟨by first | rfl | simp, hk1⟩
  by_cases b2 : 100 < len2
  · clear p0 p1 p2
    go_enter Tryd.func6, Tryd.ntmps6
    go_wp2_with fail
    refine (macfirst_walk w).mono ?_
    rintro e w1 ⟨rfl, hk1⟩
    go_wp2_with fail
    go_ret
    exact ⟨by first | rfl | simp, hk1⟩
  have HP := Lib.hid (And.intro p0 (And.intro p1 p2))
  clear p0 p1 p2
  go_enter Tryd.func6, Tryd.ntmps6
  go_wp2_with fail
  refine (macfirst_walk w).mono ?_
  rintro e w1 ⟨rfl, hk1⟩
  go_wp2_with fail
  refine (number_walk a3 200 _ hn.1 hn.2 (by omega) (by omega)).mono ?_
  rintro e w2 ⟨rfl, rfl⟩
  obtain ⟨n, hnn, hn2⟩ := modNat a3 200 (by omega)
  rw [hnn]
  clear hnn hn
  go_wp2_with fail
  refine (number_walk a4 100 _ hm.1 hm.2 (by omega) (by omega)).mono ?_
  rintro e w2 ⟨rfl, rfl⟩
  obtain ⟨m, hmm, hm2⟩ := modNat a4 100 (by omega)
  rw [hmm]
  clear hmm hm
  have HD := Lib.hid (derive_walk (HP.out.1.keep hk1) (HP.out.2.1.keep hk1) (HP.out.2.2.keep hk1) (by omega) (by omega) (by omega) (n := n) (by omega))
  go_wp2_with fail
  refine HD.out.mono ?_
  rintro e w3 ⟨a5, c5, rfl, ho5, hk3, hf5⟩
  rw [deriveL_len] at ho5 ⊢
  have hk13 := hk1.trans hk3
  have HD2 := Lib.hid (derive_walk (HP.out.1.keep hk13) (HP.out.2.1.keep hk13) (HP.out.2.2.keep hk13) (by omega) (by omega) (by omega) (n := n + m) (by omega))
  clear HD
  go_wp2_with fail
  refine (show Calls Tryd.prog 17 #[.slice a0 len0 cap0, .slice a1 len1 cap1, .slice a2 len2 cap2, .int .i64 ((n : Int) + (m : Int))] w3 _ by rw [show ((n : Int) + (m : Int)) = ((n + m : Nat) : Int) by omega]; exact HD2.out).mono ?_
  rintro e w4 ⟨a6, c6, rfl, ho6, hk4, hf6⟩
  rw [deriveL_len] at ho6 ⊢
  have hnc := ho6.2.1
  have hr5 := (ho5.keep0 hk4).row (areB_wf (deriveL_bytes _ _ _ _))
  have hr6 := ho6.mid.head (areB_wf (deriveL_bytes _ _ _ _)) n (by omega)
  rw [deriveL_prefix _ _ _ (show n ≤ n + m by omega)] at hr6
  have HS := Lib.hid (fun ca cb => sameBytes_walk (ca := ca) (cb := cb) hr5 hr6)
  clear hr5 hr6 HD2 ho5 ho6
  have hi1 : (n : Int) ≤ c6 := by omega
  have hi2 : (n : Int) ≤ (n : Int) + (m : Int) := by omega
  clear hnc
  go_wp2_with fail
  refine (HS.out _ _).mono ?_
  rintro e w7 ⟨rfl, hd7⟩
  rw [sameL_self]
  go_wp2_with fail
  go_ret
  exact ⟨by first | rfl | simp, (hk13.trans hk4).trans (hd7.keeps Nil)⟩
end Go.Proofs.YtnkahfpinkgimaaDoor
