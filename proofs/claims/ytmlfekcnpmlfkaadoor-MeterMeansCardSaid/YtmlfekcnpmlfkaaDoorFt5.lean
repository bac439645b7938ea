/-
  Floats as text: how many digits, the digits without the zeros at the end.
-/
import Derived.Test.YtmlfekcnpmlfkaaDoorFt4
namespace Go.Proofs.YtmlfekcnpmlfkaaDoor
set_option linter.unusedSimpArgs false
set_option linter.unusedVariables false
open Go.RowKit

def nDig (d : Nat) : Nat := Lib.bitLen d * 78913 / 262144 + (decide (10 ^ (Lib.bitLen d * 78913 / 262144) ≤ d)).toNat
theorem bitLenAux_le : ∀ (f x : Nat), Lib.bitLenAux f x ≤ f
  | 0, x => by unfold Lib.bitLenAux; exact Nat.le_refl _
  | f + 1, x => by
    unfold Lib.bitLenAux
    have := bitLenAux_le f (x / 2)
    split <;> omega
theorem bitLen_le64 {d : Nat} (h : d < W64) : Lib.bitLen d ≤ 64 := bitLenAux_le 64 d
theorem bitLen_le53 {d : Nat} (h : d < 9007199254740992) : Lib.bitLen d ≤ 53 := by
  have h1 := Lib.bitLenAux_fuel 53 d (by simpa using h) 64 (by omega)
  have h2 := bitLenAux_le 53 d
  unfold Lib.bitLen
  omega
theorem nDig_le {d : Nat} (h : d < W64) : nDig d ≤ 20 := by
  have h1 := bitLen_le64 h
  unfold nDig
  have : (decide (10 ^ (Lib.bitLen d * 78913 / 262144) ≤ d)).toNat ≤ 1 := by cases decide (10 ^ (Lib.bitLen d * 78913 / 262144) ≤ d) <;> decide
  omega
set_option maxHeartbeats 800000 in
theorem nDig_walk {w : World} (ht : Tabs w) (d : Nat) (hd : d < W64) :
    Calls Tryd.prog 51 #[.int .u64 d] w fun r w' => r = .returned (.int .i64 (nDig d)) ∧ w = w' := by
  have hb := bitLen_le64 hd
  have hlw := fun w => len64_walk (d : Int) w (by omega) (by unfold W64 at hd; omega)
  rw [show ((d : Int)).toNat = d from rfl] at hlw
  have HLW := Lib.hid hlw
  obtain ⟨Q, hQ⟩ : ∃ Q, Q = Lib.bitLen d * 78913 / 262144 := ⟨_, rfl⟩
  have hQi : ((Lib.bitLen d : Nat) : Int) * 78913 / 262144 = (Q : Int) := by omega
  have hQb : Q < 20 := by omega
  have t0 := ht.ten Q hQb
  have HN : Hid (nDig d = Q + (decide (10 ^ Q ≤ d)).toNat) := Lib.hid (by unfold nDig; rw [← hQ])
  have hgw := fun w => log10_walk ((Lib.bitLen d : Nat) : Int) w (by omega)
  rw [hQi] at hgw
  have HGW := Lib.hid hgw
  have hq0 : (0 : Int) ≤ Q := by omega
  have hq1 : (Q : Int) < 20 := by omega
  obtain ⟨T, hT⟩ : ∃ T, T = 10 ^ Q := ⟨_, rfl⟩
  rw [← hT] at t0 HN
  obtain ⟨b, hb2⟩ : ∃ b, b = decide (T ≤ d) := ⟨_, rfl⟩
  have hbi : decide (T ≤ d) = b := hb2.symm
  rw [hbi] at HN
  have hbl : b.toNat ≤ 1 := by cases b <;> decide
  unfold W64 at hd
  clear hlw ht hQ hQi hgw hT hb2
  generalize Lib.bitLen d = BLn at *
  go_enter Tryd.func51, Tryd.ntmps51
  go_wp2_with fail
  refine (HLW.out w).mono ?_
  rintro r w1 ⟨rfl, rfl⟩
  go_wp2_with fail
  refine (HGW.out w1).mono ?_
  rintro r w2 ⟨rfl, rfl⟩
  go_wp2_with fail
  refine (boolI_walk b w1).mono ?_
  rintro r w2 ⟨rfl, rfl⟩
  go_wp2_with fail
  go_ret
  exact ⟨by rw [HN.out]; rfl, rfl⟩
/-- How many digits are left without the zeros at the end. -/
def trimZ (L : List Int) : Nat → Nat
  | 0 => 0
  | k + 1 => if L.getD k 0 = 48 then trimZ L k else k + 1
theorem trimZ_le (L : List Int) : ∀ k, trimZ L k ≤ k
  | 0 => Nat.le_refl _
  | k + 1 => by
    unfold trimZ
    split
    · have := trimZ_le L k; omega
    · omega
theorem fb10_len (n : Nat) (B : List Int) (u : Nat) (hB : B.length = 32) : (fb10 n B u).length = 32 := by
  have h2 : ∀ (B : List Int) k x, (put2 B k x).length = B.length := fun B k x => by unfold put2; rw [List.length_set, List.length_set]
  have hN : ∀ k, (fbN n B u k).length = 32 := fun k => by
    induction k with
    | zero => exact hB
    | succ k ih => show (put8 _ _ _).length = 32; unfold put8; rw [h2, h2, h2, h2, ih]
  have hV : ∀ (B : List Int) D x, (fbV B D x).length = B.length := fun B D x => by unfold fbV; split <;> simp
  have hU : ∀ (B : List Int) D x, (fbU B D x).length = B.length := fun B D x => by
    unfold fbU
    split
    · rw [hV, h2]
    · rw [hV]
  unfold fb10 fbT
  split
  · rw [hU]; unfold fb4; rw [h2, h2, hN]
  · rw [hU, hN]
set_option maxHeartbeats 800000 in
theorem setDigits_walk {w : World} {g : Nat} {B : List Int} {T : TypeId} (hb : Blk w g (byteV B) T) (hB : B.length = 32) (d : Nat) (hd : d < W64) (p : Int) (hp : -10000 ≤ p ∧ p ≤ 10000) (n : Nat) (hn : n ≤ 20) :
    Calls Tryd.prog 50 #[.slice (some ⟨g, 0, none⟩) 32 32, .int .u64 d, .int .i64 p, .int .i64 n] w fun r w' => r = .returned (.tuple #[.int .i64 (n + p), .int .i64 (trimZ (fb10 n B d) n)]) ∧ Blk w' g (byteV (fb10 n B d)) T ∧ Keeps (One g) w w' := by
  have HF := Lib.hid (fb10_walk (cap := 32) hb hB hn d hd)
  have hL := fb10_len n B d hB
  obtain ⟨L, hLe⟩ : ∃ L, L = fb10 n B d := ⟨_, rfl⟩
  rw [← hLe] at HF hL ⊢
  have HL := Lib.hid hL
  have hni : (n : Int) ≤ 32 := by omega
  obtain ⟨hp1, hp2⟩ := hp
  clear hb hB hLe hL hd
  go_enter Tryd.func50, Tryd.ntmps50
  go_wp2_with fail
  refine HF.out.mono ?_
  rintro r w1 ⟨rfl, hb1, hk1⟩
  have HB := Lib.hid hb1
  have HK := Lib.hid hk1
  clear hb1 hk1 HF
  go_wp2_with fail
  go_loopw [3] (fun x wr => ∃ (j : Nat), x = .int .i64 j ∧ j ≤ n ∧ w1 = wr ∧ Hid (trimZ L n = trimZ L j)) (fun x _ => (intOf x).toNat)
  case atStart => exact ⟨n, rfl, Nat.le_refl _, rfl, Lib.hid rfl⟩
  case round =>
    obtain ⟨j, rfl, hj, rfl, hT⟩ := hrel
    cases j with
    | zero =>
      have HF := Lib.hid (hT.out.trans (show trimZ L 0 = 0 from rfl))
      go_wp2_with fail
      go_ret2
      exact ⟨by rw [HF.out]; rfl, HB.out, HK.out⟩
    | succ i =>
      have hc := HB.out.cell i (byteV_get HL.out (by omega))
      have hi1 : ((i + 1 : Nat) : Int) - 1 = (i : Int) := by omega
      have hi2 : IntKind.i64.wrap (i : Int) = (i : Int) := by rw [IntKind.wrap_i64]; omega
      have hi3 : (i : Int) < 32 := by omega
      have hip : (0 : Int) < ((i + 1 : Nat) : Int) := by omega
      obtain ⟨I1, hI1⟩ : ∃ I, I = i + 1 := ⟨_, rfl⟩
      by_cases h48 : L.getD i 0 = 48
      · have HN := Lib.hid (hT.out.trans (show trimZ L (i + 1) = trimZ L i by show (if _ then _ else _) = _; rw [if_pos h48]))
        rw [h48] at hc
        clear h48
        go_wp2_with fail
        go_roundw
        case rel => first | exact ⟨i, by go_num, by omega, by first | rfl | trivial, HN⟩ | ((repeat apply Exists.intro); exact ⟨⟨i, by go_num, by omega, by first | rfl | trivial, HN⟩, rfl⟩)
        case measure => first | (simp [intOf]; done) | (simp [intOf]; omega)
      · have HN := Lib.hid (hT.out.trans (show trimZ L (i + 1) = i + 1 by show (if _ then _ else _) = _; rw [if_neg h48]))
        have h48b : (L.getD i 0 == 48) = false := by rw [beq_eq_false_iff_ne]; exact h48
        clear h48
        generalize L.getD i 0 = c at *
        go_wp2_with fail
        go_ret2
        exact ⟨by rw [HN.out]; rfl, HB.out, HK.out⟩
end Go.Proofs.YtmlfekcnpmlfkaaDoor
