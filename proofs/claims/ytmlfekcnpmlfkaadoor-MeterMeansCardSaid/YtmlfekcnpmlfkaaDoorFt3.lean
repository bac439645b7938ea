/-
  Floats as text: the shortest digits.
-/
import Derived.Test.YtmlfekcnpmlfkaaDoorFt2
namespace Go.Proofs.YtmlfekcnpmlfkaaDoor
set_option linter.unusedSimpArgs false
set_option linter.unusedVariables false
open Go.RowKit

theorem Tryd.zeroSc (w : World) : (zeroValue 79).run Tryd.prog w = .ok (.agg [.int .u64 0, .int .u64 0, .int .i64 0].toArray) w := by kernel_rfl
theorem i64_and1 (x : Int) : bits .and .i64 x 1 = x % 2 := by
  have h127 : (BitVec.ofInt 64 1).toNat = 2 ^ 1 - 1 := by decide
  have key : (BitVec.ofInt 64 x &&& BitVec.ofInt 64 1).toNat = (x % ((2 ^ 64 : Nat) : Int)).toNat % 2 ^ 1 := by
    rw [BitVec.toNat_and, BitVec.toNat_ofInt, h127, Nat.and_two_pow_sub_one_eq_mod]
  show IntKind.i64.wrap ((BitVec.ofInt 64 x &&& BitVec.ofInt 64 1).toNat : Nat) = x % 2
  rw [key, IntKind.wrap_i64]
  omega
/-- What the shortest digits come to, from the scale on. -/
def shortR (m : Nat) (e P : Int) (mn mx : Nat) (od : Int) : Nat × Int :=
  if ceilN (nudgeN (uscaleN mn (powHi (P + 348).toNat) (powLo (P + 348).toNat) ((-(e + P * 108853 / 32768 + 3)) % 64).toNat) od) ≤ floorN (nudgeN (uscaleN mx (powHi (P + 348).toNat) (powLo (P + 348).toNat) ((-(e + P * 108853 / 32768 + 3)) % 64).toNat) (-od)) / 10 * 10 then (floorN (nudgeN (uscaleN mx (powHi (P + 348).toNat) (powLo (P + 348).toNat) ((-(e + P * 108853 / 32768 + 3)) % 64).toNat) (-od)) / 10, -(P - 1))
  else if ceilN (nudgeN (uscaleN mn (powHi (P + 348).toNat) (powLo (P + 348).toNat) ((-(e + P * 108853 / 32768 + 3)) % 64).toNat) od) < floorN (nudgeN (uscaleN mx (powHi (P + 348).toNat) (powLo (P + 348).toNat) ((-(e + P * 108853 / 32768 + 3)) % 64).toNat) (-od)) then (roundN (uscaleN m (powHi (P + 348).toNat) (powLo (P + 348).toNat) ((-(e + P * 108853 / 32768 + 3)) % 64).toNat), -P)
  else (ceilN (nudgeN (uscaleN mn (powHi (P + 348).toNat) (powLo (P + 348).toNat) ((-(e + P * 108853 / 32768 + 3)) % 64).toNat) od), -P)
def shortZ (e : Int) : Nat := if -1085 ≤ e then 11 else (11 + (-1085 - e)).toNat
def shortF (m : Nat) (e : Int) : Nat × Int :=
  if m = 9223372036854775808 ∧ -1085 < e then shortR m e (-(((e + 11) * 631305 - 261663) / 2097152)) ((m + W64 - 512) % W64) ((m + 1024) % W64) ((m / 2048 : Nat) % 2)
  else shortR m e (-((e + (shortZ e : Nat)) * 78913 / 262144)) ((m + W64 - 2 ^ (shortZ e - 1)) % W64) ((m + 2 ^ (shortZ e - 1)) % W64) ((m / 2 ^ shortZ e : Nat) % 2)
set_option maxRecDepth 20000 in
set_option maxHeartbeats 1600000 in
theorem short_walk {w : World} (ht : Tabs w) (m : Nat) (e : Int) (hm : m < W64) (he : -1137 ≤ e ∧ e ≤ 1000) :
    Calls Tryd.prog 57 #[.int .u64 m, .int .i64 e] w fun r w' => r = .returned (.tuple #[.int .u64 (shortF m e).1, .int .i64 (shortF m e).2]) ∧ Keeps Nil w w' := by
  obtain ⟨he1, he2⟩ := he
  have HT := Lib.hid ht
  unfold W64 at hm
  clear ht
  by_cases hs : m = 9223372036854775808 ∧ -1085 < e
  · obtain ⟨LG, hLG⟩ : ∃ LG, LG = ((e + 11) * 631305 - 261663) / 2097152 := ⟨_, rfl⟩
    have hLb : -340 ≤ LG ∧ LG ≤ 340 := by omega
    obtain ⟨P, hP⟩ : ∃ P, -LG = P := ⟨_, rfl⟩
    obtain ⟨iP, hiP⟩ : ∃ i : Nat, P + 348 = (i : Int) := ⟨(P + 348).toNat, by omega⟩
    have hiPb : iP < 696 := by omega
    obtain ⟨MN, hMNe⟩ : ∃ MN, MN = (m + W64 - 512) % W64 := ⟨_, rfl⟩
    obtain ⟨MX, hMXe⟩ : ∃ MX, MX = (m + 1024) % W64 := ⟨_, rfl⟩
    obtain ⟨OD, hODe⟩ : ∃ OD : Int, OD = ((m / 2048 : Nat) % 2) := ⟨_, rfl⟩
    have hMN : MN < W64 := by rw [hMNe]; unfold W64; omega
    have hMX : MX < W64 := by rw [hMXe]; unfold W64; omega
    have hOD : OD = 0 ∨ OD = 1 ∨ OD = -1 := by omega
    have HS := Lib.hid (show shortF m e = shortR m e P MN MX OD by unfold shortF; rw [if_pos hs, hMNe, hMXe, hODe, ← hP, hLG])
    have hmn : IntKind.u64.wrap ((m : Int) - 512) = (MN : Int) := by rw [hMNe, IntKind.wrap_u64]; unfold W64; omega
    have hmx : IntKind.u64.wrap ((m : Int) + 1024) = (MX : Int) := by rw [hMXe, IntKind.wrap_u64]; unfold W64; omega
    have hand : bits .and .i64 ((m : Int) / 2048) 1 = OD := by rw [i64_and1, hODe]; omega
    have hlw := fun w => skewed_walk (e + 11) w (by omega)
    rw [← hLG] at hlw
    have HLW := Lib.hid hlw
    have h63i : ((m : Int) == 9223372036854775808) = true := by rw [beq_iff_eq]; omega
    have hei : decide ((-1085 : Int) < e) = true := decide_eq_true hs.2
    have hPb : -340 ≤ P ∧ P ≤ 340 := by omega
    clear hLG hlw hMNe hMXe hODe hs
    go_enter Tryd.func57, Tryd.ntmps57
    go_wp2_with fail
    refine (HLW.out w).mono ?_
    rintro r w1 ⟨rfl, rfl⟩
    have hzd := Tryd.zeroSc
    go_upto_region 28 with fail
    have hb : ScAt (w.alloc (.cells #[.int .u64 0, .int .u64 0, .int .i64 0] 79)) w.heap.size 0 0 0 := Blk.new w [.int .u64 0, .int .u64 0, .int .i64 0] 79
    have hkA : Keeps Nil w (w.alloc (.cells #[.int .u64 0, .int .u64 0, .int .i64 0] 79)) := (Keeps.refl _ _).alloc _
    generalize w.alloc (.cells #[.int .u64 0, .int .u64 0, .int .i64 0] 79) = wA at *
    have hgl := HT.out.lt
    obtain ⟨g0, hg0⟩ : ∃ g, w.heap.size = g := ⟨_, rfl⟩
    have hgw : w.heap.size ≤ g0 := by omega
    have hne : g0 ≠ 3 := by omega
    rw [hg0] at hb ⊢
    have HB := Lib.hid hb
    have HKA := Lib.hid hkA
    have HTA := Lib.hid (HT.out.keep hkA)
    clear hb hkA hg0 hgl hzd
    go_wp2_with fail
    refine (log2_walk P wA (by omega)).mono ?_
    rintro r w2 ⟨rfl, rfl⟩
    obtain ⟨lp, hlp⟩ : ∃ lp, lp = P * 108853 / 32768 := ⟨_, rfl⟩
    have hlpb : -2000 ≤ lp ∧ lp ≤ 2000 := by omega
    rw [← hlp]
    have HLP := Lib.hid hlp
    clear hlp
    go_wp2_with fail
    refine (prescale_walk HB.out HTA.out hne e P lp iP hiP (by omega) (by omega) (by omega)).mono ?_
    rintro r w3 ⟨rfl, hs3, hk3⟩
    have hpw := pow_lt (i := iP) (by omega)
    obtain ⟨S, hS⟩ : ∃ S, S = -(e + lp + 3) := ⟨_, rfl⟩
    rw [← hS] at hs3
    have HSR2 : Hid (shortR m e P MN MX OD = if ceilN (nudgeN (uscaleN MN (powHi iP) (powLo iP) (S % 64).toNat) OD) ≤ floorN (nudgeN (uscaleN MX (powHi iP) (powLo iP) (S % 64).toNat) (-OD)) / 10 * 10 then (floorN (nudgeN (uscaleN MX (powHi iP) (powLo iP) (S % 64).toNat) (-OD)) / 10, -(P - 1)) else if ceilN (nudgeN (uscaleN MN (powHi iP) (powLo iP) (S % 64).toNat) OD) < floorN (nudgeN (uscaleN MX (powHi iP) (powLo iP) (S % 64).toNat) (-OD)) then (roundN (uscaleN m (powHi iP) (powLo iP) (S % 64).toNat), -P) else (ceilN (nudgeN (uscaleN MN (powHi iP) (powLo iP) (S % 64).toNat) OD), -P)) := Lib.hid (by
      have hi : (P + 348).toNat = iP := by omega
      unfold shortR
      rw [hi, ← HLP.out, ← hS])
    have HPW := Lib.hid hpw
    have HKw := Lib.hid (HKA.out.step hk3 (fun k hk => .inr (by rw [show k = g0 from hk]; exact hgw)))
    have HU1 := Lib.hid (uscale_walk hs3 MN hMN hpw.1 hpw.2)
    have HS3 := Lib.hid hs3
    clear hs3 hk3 hpw hS
    generalize powHi iP = H at *
    generalize powLo iP = L at *
    obtain ⟨sh, hsh⟩ : ∃ sh, (S % 64).toNat = sh := ⟨_, rfl⟩
    rw [hsh] at HU1 HSR2
    have hSh := Lib.hid hsh
    clear hsh
    have hU1 : uscaleN MN H L sh < W64 := uscale_lt _ _ _ _ hMN HPW.out.1
    have hU2 : uscaleN MX H L sh < W64 := uscale_lt _ _ _ _ hMX HPW.out.1
    have hU3 : uscaleN m H L sh < W64 := uscale_lt _ _ _ _ hm HPW.out.1
    generalize uscaleN MN H L sh = U1 at *
    go_wp2_with fail
    refine HU1.out.mono ?_
    rintro r w4 ⟨rfl, hk4⟩
    have HS4 := Lib.hid (Blk.keep HS3.out hk4 (fun h => h))
    have HK4 := Lib.hid (HKw.out.trans hk4)
    clear hk4 HU1
    go_wp2_with fail
    refine (nudge_walk U1 OD w4 hU1 hOD).mono ?_
    rintro r w5 ⟨rfl, rfl⟩
    have hn1 : nudgeN U1 OD < W64 := by unfold nudgeN W64; omega
    generalize nudgeN U1 OD = N1 at *
    go_wp2_with fail
    refine (ceil_walk N1 w4 hn1).mono ?_
    rintro r w5 ⟨rfl, rfl⟩
    have hdn : ceilN N1 < 4611686018427387904 := by unfold ceilN W64; omega
    generalize ceilN N1 = DN at *
    have HU2 := Lib.hid (uscale_walk HS4.out MX hMX HPW.out.1 HPW.out.2)
    rw [hSh.out] at HU2
    generalize uscaleN MX H L sh = U2 at *
    go_wp2_with fail
    refine HU2.out.mono ?_
    rintro r w6 ⟨rfl, hk6⟩
    have HS6 := Lib.hid (Blk.keep HS4.out hk6 (fun h => h))
    have HK6 := Lib.hid (HK4.out.trans hk6)
    clear hk6 HU2
    go_wp2_with fail
    refine (nudge_walk U2 (-OD) w6 hU2 (by omega)).mono ?_
    rintro r w7 ⟨rfl, rfl⟩
    have hn2 : nudgeN U2 (-OD) < W64 := by unfold nudgeN W64; omega
    generalize nudgeN U2 (-OD) = N2 at *
    go_wp2_with fail
    refine (floor_walk N2 w6 hn2).mono ?_
    rintro r w7 ⟨rfl, rfl⟩
    have hdx : floorN N2 < 4611686018427387904 := by unfold floorN W64 at *; omega
    generalize floorN N2 = DX at *
    have hfin := HS.out.trans HSR2.out
    obtain ⟨DQ, hDQ⟩ : ∃ q, q = DX / 10 := ⟨_, rfl⟩
    have hdq : (DX : Int) / 10 = (DQ : Int) := by omega
    have hDQb : DQ * 10 < 18446744073709551616 := by omega
    rw [← hDQ] at hfin
    clear hDQ HSR2 HS
    by_cases hc1 : DN ≤ DQ * 10
    · rw [if_pos hc1] at hfin
      have HFN := Lib.hid hfin
      have hc1i : (DN : Int) ≤ (DQ : Int) * 10 := by omega
      have hc1d : decide ((DN : Int) ≤ (DQ : Int) * 10) = true := decide_eq_true hc1i
      clear hfin hc1
      go_wp2_with fail
      go_ret2
      exact ⟨by rw [HFN.out]; rfl, HK6.out⟩
    · rw [if_neg hc1] at hfin
      have hc1i : ¬ (DN : Int) ≤ (DQ : Int) * 10 := by omega
      have hc1d : decide ((DN : Int) ≤ (DQ : Int) * 10) = false := decide_eq_false hc1i
      clear hc1
      by_cases hc2 : DN < DX
      · rw [if_pos hc2] at hfin
        have HFN := Lib.hid hfin
        have hc2d : decide (DN < DX) = true := decide_eq_true hc2
        have hc2i : decide ((DN : Int) < (DX : Int)) = true := decide_eq_true (by omega)
        have HU3 := Lib.hid (uscale_walk HS6.out m hm HPW.out.1 HPW.out.2)
        rw [hSh.out] at HU3
        clear hfin hc2
        generalize uscaleN m H L sh = U3 at *
        go_wp2_with fail
        refine HU3.out.mono ?_
        rintro r w7 ⟨rfl, hk7⟩
        have HK7 := Lib.hid (HK6.out.trans hk7)
        clear hk7 HU3
        go_wp2_with fail
        refine (round_walk U3 w7 hU3).mono ?_
        rintro r w8 ⟨rfl, rfl⟩
        go_wp2_with fail
        go_ret2
        exact ⟨by rw [HFN.out]; rfl, HK7.out⟩
      · rw [if_neg hc2] at hfin
        have HFN := Lib.hid hfin
        have hc2d : decide (DN < DX) = false := decide_eq_false hc2
        have hc2i : decide ((DN : Int) < (DX : Int)) = false := decide_eq_false (by omega)
        clear hfin hc2
        go_wp2_with fail
        go_ret2
        exact ⟨by rw [HFN.out]; rfl, HK6.out⟩
  · by_cases hz : -1085 ≤ e
    · obtain ⟨LG, hLG⟩ : ∃ LG, LG = (e + 11) * 78913 / 262144 := ⟨_, rfl⟩
      have hLb : -340 ≤ LG ∧ LG ≤ 340 := by omega
      obtain ⟨P, hP⟩ : ∃ P, -LG = P := ⟨_, rfl⟩
      obtain ⟨iP, hiP⟩ : ∃ i : Nat, P + 348 = (i : Int) := ⟨(P + 348).toNat, by omega⟩
      have hiPb : iP < 696 := by omega
      obtain ⟨MN, hMNe⟩ : ∃ MN, MN = (m + W64 - 1024) % W64 := ⟨_, rfl⟩
      obtain ⟨MX, hMXe⟩ : ∃ MX, MX = (m + 1024) % W64 := ⟨_, rfl⟩
      obtain ⟨OD, hODe⟩ : ∃ OD : Int, OD = ((m / 2048 : Nat) % 2) := ⟨_, rfl⟩
      have hMN : MN < W64 := by rw [hMNe]; unfold W64; omega
      have hMX : MX < W64 := by rw [hMXe]; unfold W64; omega
      have hOD : OD = 0 ∨ OD = 1 ∨ OD = -1 := by omega
      have HS := Lib.hid (show shortF m e = shortR m e P MN MX OD by
        unfold shortF
        rw [if_neg hs, show shortZ e = 11 by unfold shortZ; rw [if_pos hz], hMNe, hMXe, hODe, ← hP, hLG]
        rfl)
      have hmn : IntKind.u64.wrap ((m : Int) - 1024) = (MN : Int) := by rw [hMNe, IntKind.wrap_u64]; unfold W64; omega
      have hmx : IntKind.u64.wrap ((m : Int) + 1024) = (MX : Int) := by rw [hMXe, IntKind.wrap_u64]; unfold W64; omega
      have hand : bits .and .i64 ((m : Int) / 2048) 1 = OD := by rw [i64_and1, hODe]; omega
      have hlw := fun w => log10_walk (e + 11) w (by omega)
      rw [← hLG] at hlw
      have HLW := Lib.hid hlw
      have hPb : -340 ≤ P ∧ P ≤ 340 := by omega
      have hzi : decide ((-1085 : Int) ≤ e) = true := decide_eq_true hz
      by_cases h63 : m = 9223372036854775808
      · have h63i : ((m : Int) == 9223372036854775808) = true := by rw [beq_iff_eq]; omega
        have hei : decide ((-1085 : Int) < e) = false := decide_eq_false (by omega)
        clear hLG hlw hMNe hMXe hODe hs h63
        go_enter Tryd.func57, Tryd.ntmps57
        go_wp2_with fail
        refine (HLW.out w).mono ?_
        rintro r w1 ⟨rfl, rfl⟩
        have hzd := Tryd.zeroSc
        go_upto_region 28 with fail
        have hb : ScAt (w.alloc (.cells #[.int .u64 0, .int .u64 0, .int .i64 0] 79)) w.heap.size 0 0 0 := Blk.new w [.int .u64 0, .int .u64 0, .int .i64 0] 79
        have hkA : Keeps Nil w (w.alloc (.cells #[.int .u64 0, .int .u64 0, .int .i64 0] 79)) := (Keeps.refl _ _).alloc _
        generalize w.alloc (.cells #[.int .u64 0, .int .u64 0, .int .i64 0] 79) = wA at *
        have hgl := HT.out.lt
        obtain ⟨g0, hg0⟩ : ∃ g, w.heap.size = g := ⟨_, rfl⟩
        have hgw : w.heap.size ≤ g0 := by omega
        have hne : g0 ≠ 3 := by omega
        rw [hg0] at hb ⊢
        have HB := Lib.hid hb
        have HKA := Lib.hid hkA
        have HTA := Lib.hid (HT.out.keep hkA)
        clear hb hkA hg0 hgl hzd
        go_wp2_with fail
        refine (log2_walk P wA (by omega)).mono ?_
        rintro r w2 ⟨rfl, rfl⟩
        obtain ⟨lp, hlp⟩ : ∃ lp, lp = P * 108853 / 32768 := ⟨_, rfl⟩
        have hlpb : -2000 ≤ lp ∧ lp ≤ 2000 := by omega
        rw [← hlp]
        have HLP := Lib.hid hlp
        clear hlp
        go_wp2_with fail
        refine (prescale_walk HB.out HTA.out hne e P lp iP hiP (by omega) (by omega) (by omega)).mono ?_
        rintro r w3 ⟨rfl, hs3, hk3⟩
        have hpw := pow_lt (i := iP) (by omega)
        obtain ⟨S, hS⟩ : ∃ S, S = -(e + lp + 3) := ⟨_, rfl⟩
        rw [← hS] at hs3
        have HSR2 : Hid (shortR m e P MN MX OD = if ceilN (nudgeN (uscaleN MN (powHi iP) (powLo iP) (S % 64).toNat) OD) ≤ floorN (nudgeN (uscaleN MX (powHi iP) (powLo iP) (S % 64).toNat) (-OD)) / 10 * 10 then (floorN (nudgeN (uscaleN MX (powHi iP) (powLo iP) (S % 64).toNat) (-OD)) / 10, -(P - 1)) else if ceilN (nudgeN (uscaleN MN (powHi iP) (powLo iP) (S % 64).toNat) OD) < floorN (nudgeN (uscaleN MX (powHi iP) (powLo iP) (S % 64).toNat) (-OD)) then (roundN (uscaleN m (powHi iP) (powLo iP) (S % 64).toNat), -P) else (ceilN (nudgeN (uscaleN MN (powHi iP) (powLo iP) (S % 64).toNat) OD), -P)) := Lib.hid (by
          have hi : (P + 348).toNat = iP := by omega
          unfold shortR
          rw [hi, ← HLP.out, ← hS])
        have HPW := Lib.hid hpw
        have HKw := Lib.hid (HKA.out.step hk3 (fun k hk => .inr (by rw [show k = g0 from hk]; exact hgw)))
        have HU1 := Lib.hid (uscale_walk hs3 MN hMN hpw.1 hpw.2)
        have HS3 := Lib.hid hs3
        clear hs3 hk3 hpw hS
        generalize powHi iP = H at *
        generalize powLo iP = L at *
        obtain ⟨sh, hsh⟩ : ∃ sh, (S % 64).toNat = sh := ⟨_, rfl⟩
        rw [hsh] at HU1 HSR2
        have hSh := Lib.hid hsh
        clear hsh
        have hU1 : uscaleN MN H L sh < W64 := uscale_lt _ _ _ _ hMN HPW.out.1
        have hU2 : uscaleN MX H L sh < W64 := uscale_lt _ _ _ _ hMX HPW.out.1
        have hU3 : uscaleN m H L sh < W64 := uscale_lt _ _ _ _ hm HPW.out.1
        generalize uscaleN MN H L sh = U1 at *
        go_wp2_with fail
        refine HU1.out.mono ?_
        rintro r w4 ⟨rfl, hk4⟩
        have HS4 := Lib.hid (Blk.keep HS3.out hk4 (fun h => h))
        have HK4 := Lib.hid (HKw.out.trans hk4)
        clear hk4 HU1
        go_wp2_with fail
        refine (nudge_walk U1 OD w4 hU1 hOD).mono ?_
        rintro r w5 ⟨rfl, rfl⟩
        have hn1 : nudgeN U1 OD < W64 := by unfold nudgeN W64; omega
        generalize nudgeN U1 OD = N1 at *
        go_wp2_with fail
        refine (ceil_walk N1 w4 hn1).mono ?_
        rintro r w5 ⟨rfl, rfl⟩
        have hdn : ceilN N1 < 4611686018427387904 := by unfold ceilN W64; omega
        generalize ceilN N1 = DN at *
        have HU2 := Lib.hid (uscale_walk HS4.out MX hMX HPW.out.1 HPW.out.2)
        rw [hSh.out] at HU2
        generalize uscaleN MX H L sh = U2 at *
        go_wp2_with fail
        refine HU2.out.mono ?_
        rintro r w6 ⟨rfl, hk6⟩
        have HS6 := Lib.hid (Blk.keep HS4.out hk6 (fun h => h))
        have HK6 := Lib.hid (HK4.out.trans hk6)
        clear hk6 HU2
        go_wp2_with fail
        refine (nudge_walk U2 (-OD) w6 hU2 (by omega)).mono ?_
        rintro r w7 ⟨rfl, rfl⟩
        have hn2 : nudgeN U2 (-OD) < W64 := by unfold nudgeN W64; omega
        generalize nudgeN U2 (-OD) = N2 at *
        go_wp2_with fail
        refine (floor_walk N2 w6 hn2).mono ?_
        rintro r w7 ⟨rfl, rfl⟩
        have hdx : floorN N2 < 4611686018427387904 := by unfold floorN W64 at *; omega
        generalize floorN N2 = DX at *
        have hfin := HS.out.trans HSR2.out
        obtain ⟨DQ, hDQ⟩ : ∃ q, q = DX / 10 := ⟨_, rfl⟩
        have hdq : (DX : Int) / 10 = (DQ : Int) := by omega
        have hDQb : DQ * 10 < 18446744073709551616 := by omega
        rw [← hDQ] at hfin
        clear hDQ HSR2 HS
        by_cases hc1 : DN ≤ DQ * 10
        · rw [if_pos hc1] at hfin
          have HFN := Lib.hid hfin
          have hc1i : (DN : Int) ≤ (DQ : Int) * 10 := by omega
          have hc1d : decide ((DN : Int) ≤ (DQ : Int) * 10) = true := decide_eq_true hc1i
          clear hfin hc1
          go_wp2_with fail
          go_ret2
          exact ⟨by rw [HFN.out]; rfl, HK6.out⟩
        · rw [if_neg hc1] at hfin
          have hc1i : ¬ (DN : Int) ≤ (DQ : Int) * 10 := by omega
          have hc1d : decide ((DN : Int) ≤ (DQ : Int) * 10) = false := decide_eq_false hc1i
          clear hc1
          by_cases hc2 : DN < DX
          · rw [if_pos hc2] at hfin
            have HFN := Lib.hid hfin
            have hc2d : decide (DN < DX) = true := decide_eq_true hc2
            have hc2i : decide ((DN : Int) < (DX : Int)) = true := decide_eq_true (by omega)
            have HU3 := Lib.hid (uscale_walk HS6.out m hm HPW.out.1 HPW.out.2)
            rw [hSh.out] at HU3
            clear hfin hc2
            generalize uscaleN m H L sh = U3 at *
            go_wp2_with fail
            refine HU3.out.mono ?_
            rintro r w7 ⟨rfl, hk7⟩
            have HK7 := Lib.hid (HK6.out.trans hk7)
            clear hk7 HU3
            go_wp2_with fail
            refine (round_walk U3 w7 hU3).mono ?_
            rintro r w8 ⟨rfl, rfl⟩
            go_wp2_with fail
            go_ret2
            exact ⟨by rw [HFN.out]; rfl, HK7.out⟩
          · rw [if_neg hc2] at hfin
            have HFN := Lib.hid hfin
            have hc2d : decide (DN < DX) = false := decide_eq_false hc2
            have hc2i : decide ((DN : Int) < (DX : Int)) = false := decide_eq_false (by omega)
            clear hfin hc2
            go_wp2_with fail
            go_ret2
            exact ⟨by rw [HFN.out]; rfl, HK6.out⟩
      · have h63i : ((m : Int) == 9223372036854775808) = false := by rw [beq_eq_false_iff_ne]; omega
        clear hLG hlw hMNe hMXe hODe hs h63
        go_enter Tryd.func57, Tryd.ntmps57
        go_wp2_with fail
        refine (HLW.out w).mono ?_
        rintro r w1 ⟨rfl, rfl⟩
        have hzd := Tryd.zeroSc
        go_upto_region 28 with fail
        have hb : ScAt (w.alloc (.cells #[.int .u64 0, .int .u64 0, .int .i64 0] 79)) w.heap.size 0 0 0 := Blk.new w [.int .u64 0, .int .u64 0, .int .i64 0] 79
        have hkA : Keeps Nil w (w.alloc (.cells #[.int .u64 0, .int .u64 0, .int .i64 0] 79)) := (Keeps.refl _ _).alloc _
        generalize w.alloc (.cells #[.int .u64 0, .int .u64 0, .int .i64 0] 79) = wA at *
        have hgl := HT.out.lt
        obtain ⟨g0, hg0⟩ : ∃ g, w.heap.size = g := ⟨_, rfl⟩
        have hgw : w.heap.size ≤ g0 := by omega
        have hne : g0 ≠ 3 := by omega
        rw [hg0] at hb ⊢
        have HB := Lib.hid hb
        have HKA := Lib.hid hkA
        have HTA := Lib.hid (HT.out.keep hkA)
        clear hb hkA hg0 hgl hzd
        go_wp2_with fail
        refine (log2_walk P wA (by omega)).mono ?_
        rintro r w2 ⟨rfl, rfl⟩
        obtain ⟨lp, hlp⟩ : ∃ lp, lp = P * 108853 / 32768 := ⟨_, rfl⟩
        have hlpb : -2000 ≤ lp ∧ lp ≤ 2000 := by omega
        rw [← hlp]
        have HLP := Lib.hid hlp
        clear hlp
        go_wp2_with fail
        refine (prescale_walk HB.out HTA.out hne e P lp iP hiP (by omega) (by omega) (by omega)).mono ?_
        rintro r w3 ⟨rfl, hs3, hk3⟩
        have hpw := pow_lt (i := iP) (by omega)
        obtain ⟨S, hS⟩ : ∃ S, S = -(e + lp + 3) := ⟨_, rfl⟩
        rw [← hS] at hs3
        have HSR2 : Hid (shortR m e P MN MX OD = if ceilN (nudgeN (uscaleN MN (powHi iP) (powLo iP) (S % 64).toNat) OD) ≤ floorN (nudgeN (uscaleN MX (powHi iP) (powLo iP) (S % 64).toNat) (-OD)) / 10 * 10 then (floorN (nudgeN (uscaleN MX (powHi iP) (powLo iP) (S % 64).toNat) (-OD)) / 10, -(P - 1)) else if ceilN (nudgeN (uscaleN MN (powHi iP) (powLo iP) (S % 64).toNat) OD) < floorN (nudgeN (uscaleN MX (powHi iP) (powLo iP) (S % 64).toNat) (-OD)) then (roundN (uscaleN m (powHi iP) (powLo iP) (S % 64).toNat), -P) else (ceilN (nudgeN (uscaleN MN (powHi iP) (powLo iP) (S % 64).toNat) OD), -P)) := Lib.hid (by
          have hi : (P + 348).toNat = iP := by omega
          unfold shortR
          rw [hi, ← HLP.out, ← hS])
        have HPW := Lib.hid hpw
        have HKw := Lib.hid (HKA.out.step hk3 (fun k hk => .inr (by rw [show k = g0 from hk]; exact hgw)))
        have HU1 := Lib.hid (uscale_walk hs3 MN hMN hpw.1 hpw.2)
        have HS3 := Lib.hid hs3
        clear hs3 hk3 hpw hS
        generalize powHi iP = H at *
        generalize powLo iP = L at *
        obtain ⟨sh, hsh⟩ : ∃ sh, (S % 64).toNat = sh := ⟨_, rfl⟩
        rw [hsh] at HU1 HSR2
        have hSh := Lib.hid hsh
        clear hsh
        have hU1 : uscaleN MN H L sh < W64 := uscale_lt _ _ _ _ hMN HPW.out.1
        have hU2 : uscaleN MX H L sh < W64 := uscale_lt _ _ _ _ hMX HPW.out.1
        have hU3 : uscaleN m H L sh < W64 := uscale_lt _ _ _ _ hm HPW.out.1
        generalize uscaleN MN H L sh = U1 at *
        go_wp2_with fail
        refine HU1.out.mono ?_
        rintro r w4 ⟨rfl, hk4⟩
        have HS4 := Lib.hid (Blk.keep HS3.out hk4 (fun h => h))
        have HK4 := Lib.hid (HKw.out.trans hk4)
        clear hk4 HU1
        go_wp2_with fail
        refine (nudge_walk U1 OD w4 hU1 hOD).mono ?_
        rintro r w5 ⟨rfl, rfl⟩
        have hn1 : nudgeN U1 OD < W64 := by unfold nudgeN W64; omega
        generalize nudgeN U1 OD = N1 at *
        go_wp2_with fail
        refine (ceil_walk N1 w4 hn1).mono ?_
        rintro r w5 ⟨rfl, rfl⟩
        have hdn : ceilN N1 < 4611686018427387904 := by unfold ceilN W64; omega
        generalize ceilN N1 = DN at *
        have HU2 := Lib.hid (uscale_walk HS4.out MX hMX HPW.out.1 HPW.out.2)
        rw [hSh.out] at HU2
        generalize uscaleN MX H L sh = U2 at *
        go_wp2_with fail
        refine HU2.out.mono ?_
        rintro r w6 ⟨rfl, hk6⟩
        have HS6 := Lib.hid (Blk.keep HS4.out hk6 (fun h => h))
        have HK6 := Lib.hid (HK4.out.trans hk6)
        clear hk6 HU2
        go_wp2_with fail
        refine (nudge_walk U2 (-OD) w6 hU2 (by omega)).mono ?_
        rintro r w7 ⟨rfl, rfl⟩
        have hn2 : nudgeN U2 (-OD) < W64 := by unfold nudgeN W64; omega
        generalize nudgeN U2 (-OD) = N2 at *
        go_wp2_with fail
        refine (floor_walk N2 w6 hn2).mono ?_
        rintro r w7 ⟨rfl, rfl⟩
        have hdx : floorN N2 < 4611686018427387904 := by unfold floorN W64 at *; omega
        generalize floorN N2 = DX at *
        have hfin := HS.out.trans HSR2.out
        obtain ⟨DQ, hDQ⟩ : ∃ q, q = DX / 10 := ⟨_, rfl⟩
        have hdq : (DX : Int) / 10 = (DQ : Int) := by omega
        have hDQb : DQ * 10 < 18446744073709551616 := by omega
        rw [← hDQ] at hfin
        clear hDQ HSR2 HS
        by_cases hc1 : DN ≤ DQ * 10
        · rw [if_pos hc1] at hfin
          have HFN := Lib.hid hfin
          have hc1i : (DN : Int) ≤ (DQ : Int) * 10 := by omega
          have hc1d : decide ((DN : Int) ≤ (DQ : Int) * 10) = true := decide_eq_true hc1i
          clear hfin hc1
          go_wp2_with fail
          go_ret2
          exact ⟨by rw [HFN.out]; rfl, HK6.out⟩
        · rw [if_neg hc1] at hfin
          have hc1i : ¬ (DN : Int) ≤ (DQ : Int) * 10 := by omega
          have hc1d : decide ((DN : Int) ≤ (DQ : Int) * 10) = false := decide_eq_false hc1i
          clear hc1
          by_cases hc2 : DN < DX
          · rw [if_pos hc2] at hfin
            have HFN := Lib.hid hfin
            have hc2d : decide (DN < DX) = true := decide_eq_true hc2
            have hc2i : decide ((DN : Int) < (DX : Int)) = true := decide_eq_true (by omega)
            have HU3 := Lib.hid (uscale_walk HS6.out m hm HPW.out.1 HPW.out.2)
            rw [hSh.out] at HU3
            clear hfin hc2
            generalize uscaleN m H L sh = U3 at *
            go_wp2_with fail
            refine HU3.out.mono ?_
            rintro r w7 ⟨rfl, hk7⟩
            have HK7 := Lib.hid (HK6.out.trans hk7)
            clear hk7 HU3
            go_wp2_with fail
            refine (round_walk U3 w7 hU3).mono ?_
            rintro r w8 ⟨rfl, rfl⟩
            go_wp2_with fail
            go_ret2
            exact ⟨by rw [HFN.out]; rfl, HK7.out⟩
          · rw [if_neg hc2] at hfin
            have HFN := Lib.hid hfin
            have hc2d : decide (DN < DX) = false := decide_eq_false hc2
            have hc2i : decide ((DN : Int) < (DX : Int)) = false := decide_eq_false (by omega)
            clear hfin hc2
            go_wp2_with fail
            go_ret2
            exact ⟨by rw [HFN.out]; rfl, HK6.out⟩
    · obtain ⟨Z, hZ⟩ : ∃ Z, Z = shortZ e := ⟨_, rfl⟩
      have hZ2 : (Z : Int) = 11 + (-1085 - e) := by rw [hZ]; unfold shortZ; rw [if_neg hz]; omega
      have hZb : 12 ≤ Z ∧ Z ≤ 63 := by omega
      have hle := hz
      obtain ⟨LG, hLG⟩ : ∃ LG, LG = (e + (Z : Int)) * 78913 / 262144 := ⟨_, rfl⟩
      have hLb : -340 ≤ LG ∧ LG ≤ 340 := by omega
      obtain ⟨P, hP⟩ : ∃ P, -LG = P := ⟨_, rfl⟩
      obtain ⟨iP, hiP⟩ : ∃ i : Nat, P + 348 = (i : Int) := ⟨(P + 348).toNat, by omega⟩
      have hiPb : iP < 696 := by omega
      obtain ⟨Y, hY⟩ : ∃ Y, Y = Z - 1 := ⟨_, rfl⟩
      have hYb : 11 ≤ Y ∧ Y ≤ 62 := by omega
      have hpY : 2 ^ Y < 2 ^ 63 := Nat.pow_lt_pow_right (by omega) (by omega)
      have hpY2 : (2 : Nat) ^ 63 = 9223372036854775808 := by decide
      obtain ⟨q, hq⟩ : ∃ q, q = 2 ^ Y := ⟨_, rfl⟩
      have hqb : q < 9223372036854775808 := by omega
      obtain ⟨MN, hMNe⟩ : ∃ MN, MN = (m + W64 - q) % W64 := ⟨_, rfl⟩
      obtain ⟨MX, hMXe⟩ : ∃ MX, MX = (m + q) % W64 := ⟨_, rfl⟩
      obtain ⟨OD, hODe⟩ : ∃ OD : Int, OD = ((m / 2 ^ Z : Nat) % 2) := ⟨_, rfl⟩
      have hMN : MN < W64 := by rw [hMNe]; unfold W64; omega
      have hMX : MX < W64 := by rw [hMXe]; unfold W64; omega
      have hOD : OD = 0 ∨ OD = 1 ∨ OD = -1 := by omega
      have HS := Lib.hid (show shortF m e = shortR m e P MN MX OD by
        unfold shortF
        rw [if_neg hs, ← hZ, ← hY, ← hq, hMNe, hMXe, hODe, ← hP, hLG])
      have hzz : IntKind.i64.wrap (11 + IntKind.i64.wrap (-1085 - e)) = (Z : Int) := by rw [IntKind.wrap_i64, IntKind.wrap_i64]; omega
      have hzz1 : 11 + (-1085 - e) = (Z : Int) := by omega
      have hyy : IntKind.i64.wrap ((Z : Int) - 1) = (Y : Int) := by rw [IntKind.wrap_i64]; omega
      have hyy1 : (Z : Int) - 1 = (Y : Int) := by omega
      have hsh2 : (2 : Int) ^ Y = (q : Int) := by rw [hq]; simp
      have hwq : IntKind.u64.wrap (q : Int) = (q : Int) := by rw [IntKind.wrap_u64]; omega
      obtain ⟨rr, hrr⟩ : ∃ r, r = m / 2 ^ Z := ⟨_, rfl⟩
      have hmz : (m : Int) / 2 ^ Z = (rr : Int) := by rw [hrr]; simp
      have hrb : rr < 9223372036854775808 := by
        have h2 : 2 ≤ 2 ^ Z := by
          have : 2 ^ 1 ≤ 2 ^ Z := Nat.pow_le_pow_right (by omega) (by omega)
          omega
        rw [hrr]
        exact Nat.div_lt_of_lt_mul (by
          have := Nat.mul_le_mul_right 9223372036854775808 h2
          omega)
      have hmn : IntKind.u64.wrap ((m : Int) - (q : Int)) = (MN : Int) := by rw [hMNe, IntKind.wrap_u64]; unfold W64; omega
      have hmx : IntKind.u64.wrap ((m : Int) + (q : Int)) = (MX : Int) := by rw [hMXe, IntKind.wrap_u64]; unfold W64; omega
      rw [← hrr] at hODe
      have hand : bits .and .i64 (rr : Int) 1 = OD := by rw [i64_and1, hODe]; first | done | omega
      have heZ : IntKind.i64.wrap (e + (Z : Int)) = e + (Z : Int) := by rw [IntKind.wrap_i64]; omega
      have hlw := fun w => log10_walk (e + (Z : Int)) w (by omega)
      rw [← hLG] at hlw
      have HLW := Lib.hid hlw
      have hPb : -340 ≤ P ∧ P ≤ 340 := by omega
      have hzi : decide ((-1085 : Int) ≤ e) = false := decide_eq_false hz
      have hei : decide ((-1085 : Int) < e) = false := decide_eq_false (by omega)
      by_cases h63 : m = 9223372036854775808
      · have h63i : ((m : Int) == 9223372036854775808) = true := by rw [beq_iff_eq]; omega
        clear hLG hlw hMNe hMXe hODe hs h63 hq hrr hpY hpY2 hZ hY hZ2
        go_enter Tryd.func57, Tryd.ntmps57
        go_wp2_with fail
        refine (HLW.out w).mono ?_
        rintro r w1 ⟨rfl, rfl⟩
        have hzd := Tryd.zeroSc
        go_upto_region 28 with fail
        have hb : ScAt (w.alloc (.cells #[.int .u64 0, .int .u64 0, .int .i64 0] 79)) w.heap.size 0 0 0 := Blk.new w [.int .u64 0, .int .u64 0, .int .i64 0] 79
        have hkA : Keeps Nil w (w.alloc (.cells #[.int .u64 0, .int .u64 0, .int .i64 0] 79)) := (Keeps.refl _ _).alloc _
        generalize w.alloc (.cells #[.int .u64 0, .int .u64 0, .int .i64 0] 79) = wA at *
        have hgl := HT.out.lt
        obtain ⟨g0, hg0⟩ : ∃ g, w.heap.size = g := ⟨_, rfl⟩
        have hgw : w.heap.size ≤ g0 := by omega
        have hne : g0 ≠ 3 := by omega
        rw [hg0] at hb ⊢
        have HB := Lib.hid hb
        have HKA := Lib.hid hkA
        have HTA := Lib.hid (HT.out.keep hkA)
        clear hb hkA hg0 hgl hzd
        go_wp2_with fail
        refine (log2_walk P wA (by omega)).mono ?_
        rintro r w2 ⟨rfl, rfl⟩
        obtain ⟨lp, hlp⟩ : ∃ lp, lp = P * 108853 / 32768 := ⟨_, rfl⟩
        have hlpb : -2000 ≤ lp ∧ lp ≤ 2000 := by omega
        rw [← hlp]
        have HLP := Lib.hid hlp
        clear hlp
        go_wp2_with fail
        refine (prescale_walk HB.out HTA.out hne e P lp iP hiP (by omega) (by omega) (by omega)).mono ?_
        rintro r w3 ⟨rfl, hs3, hk3⟩
        have hpw := pow_lt (i := iP) (by omega)
        obtain ⟨S, hS⟩ : ∃ S, S = -(e + lp + 3) := ⟨_, rfl⟩
        rw [← hS] at hs3
        have HSR2 : Hid (shortR m e P MN MX OD = if ceilN (nudgeN (uscaleN MN (powHi iP) (powLo iP) (S % 64).toNat) OD) ≤ floorN (nudgeN (uscaleN MX (powHi iP) (powLo iP) (S % 64).toNat) (-OD)) / 10 * 10 then (floorN (nudgeN (uscaleN MX (powHi iP) (powLo iP) (S % 64).toNat) (-OD)) / 10, -(P - 1)) else if ceilN (nudgeN (uscaleN MN (powHi iP) (powLo iP) (S % 64).toNat) OD) < floorN (nudgeN (uscaleN MX (powHi iP) (powLo iP) (S % 64).toNat) (-OD)) then (roundN (uscaleN m (powHi iP) (powLo iP) (S % 64).toNat), -P) else (ceilN (nudgeN (uscaleN MN (powHi iP) (powLo iP) (S % 64).toNat) OD), -P)) := Lib.hid (by
          have hi : (P + 348).toNat = iP := by omega
          unfold shortR
          rw [hi, ← HLP.out, ← hS])
        have HPW := Lib.hid hpw
        have HKw := Lib.hid (HKA.out.step hk3 (fun k hk => .inr (by rw [show k = g0 from hk]; exact hgw)))
        have HU1 := Lib.hid (uscale_walk hs3 MN hMN hpw.1 hpw.2)
        have HS3 := Lib.hid hs3
        clear hs3 hk3 hpw hS
        generalize powHi iP = H at *
        generalize powLo iP = L at *
        obtain ⟨sh, hsh⟩ : ∃ sh, (S % 64).toNat = sh := ⟨_, rfl⟩
        rw [hsh] at HU1 HSR2
        have hSh := Lib.hid hsh
        clear hsh
        have hU1 : uscaleN MN H L sh < W64 := uscale_lt _ _ _ _ hMN HPW.out.1
        have hU2 : uscaleN MX H L sh < W64 := uscale_lt _ _ _ _ hMX HPW.out.1
        have hU3 : uscaleN m H L sh < W64 := uscale_lt _ _ _ _ hm HPW.out.1
        generalize uscaleN MN H L sh = U1 at *
        go_wp2_with fail
        refine HU1.out.mono ?_
        rintro r w4 ⟨rfl, hk4⟩
        have HS4 := Lib.hid (Blk.keep HS3.out hk4 (fun h => h))
        have HK4 := Lib.hid (HKw.out.trans hk4)
        clear hk4 HU1
        go_wp2_with fail
        refine (nudge_walk U1 OD w4 hU1 hOD).mono ?_
        rintro r w5 ⟨rfl, rfl⟩
        have hn1 : nudgeN U1 OD < W64 := by unfold nudgeN W64; omega
        generalize nudgeN U1 OD = N1 at *
        go_wp2_with fail
        refine (ceil_walk N1 w4 hn1).mono ?_
        rintro r w5 ⟨rfl, rfl⟩
        have hdn : ceilN N1 < 4611686018427387904 := by unfold ceilN W64; omega
        generalize ceilN N1 = DN at *
        have HU2 := Lib.hid (uscale_walk HS4.out MX hMX HPW.out.1 HPW.out.2)
        rw [hSh.out] at HU2
        generalize uscaleN MX H L sh = U2 at *
        go_wp2_with fail
        refine HU2.out.mono ?_
        rintro r w6 ⟨rfl, hk6⟩
        have HS6 := Lib.hid (Blk.keep HS4.out hk6 (fun h => h))
        have HK6 := Lib.hid (HK4.out.trans hk6)
        clear hk6 HU2
        go_wp2_with fail
        refine (nudge_walk U2 (-OD) w6 hU2 (by omega)).mono ?_
        rintro r w7 ⟨rfl, rfl⟩
        have hn2 : nudgeN U2 (-OD) < W64 := by unfold nudgeN W64; omega
        generalize nudgeN U2 (-OD) = N2 at *
        go_wp2_with fail
        refine (floor_walk N2 w6 hn2).mono ?_
        rintro r w7 ⟨rfl, rfl⟩
        have hdx : floorN N2 < 4611686018427387904 := by unfold floorN W64 at *; omega
        generalize floorN N2 = DX at *
        have hfin := HS.out.trans HSR2.out
        obtain ⟨DQ, hDQ⟩ : ∃ q, q = DX / 10 := ⟨_, rfl⟩
        have hdq : (DX : Int) / 10 = (DQ : Int) := by omega
        have hDQb : DQ * 10 < 18446744073709551616 := by omega
        rw [← hDQ] at hfin
        clear hDQ HSR2 HS
        by_cases hc1 : DN ≤ DQ * 10
        · rw [if_pos hc1] at hfin
          have HFN := Lib.hid hfin
          have hc1i : (DN : Int) ≤ (DQ : Int) * 10 := by omega
          have hc1d : decide ((DN : Int) ≤ (DQ : Int) * 10) = true := decide_eq_true hc1i
          clear hfin hc1
          go_wp2_with fail
          go_ret2
          exact ⟨by rw [HFN.out]; rfl, HK6.out⟩
        · rw [if_neg hc1] at hfin
          have hc1i : ¬ (DN : Int) ≤ (DQ : Int) * 10 := by omega
          have hc1d : decide ((DN : Int) ≤ (DQ : Int) * 10) = false := decide_eq_false hc1i
          clear hc1
          by_cases hc2 : DN < DX
          · rw [if_pos hc2] at hfin
            have HFN := Lib.hid hfin
            have hc2d : decide (DN < DX) = true := decide_eq_true hc2
            have hc2i : decide ((DN : Int) < (DX : Int)) = true := decide_eq_true (by omega)
            have HU3 := Lib.hid (uscale_walk HS6.out m hm HPW.out.1 HPW.out.2)
            rw [hSh.out] at HU3
            clear hfin hc2
            generalize uscaleN m H L sh = U3 at *
            go_wp2_with fail
            refine HU3.out.mono ?_
            rintro r w7 ⟨rfl, hk7⟩
            have HK7 := Lib.hid (HK6.out.trans hk7)
            clear hk7 HU3
            go_wp2_with fail
            refine (round_walk U3 w7 hU3).mono ?_
            rintro r w8 ⟨rfl, rfl⟩
            go_wp2_with fail
            go_ret2
            exact ⟨by rw [HFN.out]; rfl, HK7.out⟩
          · rw [if_neg hc2] at hfin
            have HFN := Lib.hid hfin
            have hc2d : decide (DN < DX) = false := decide_eq_false hc2
            have hc2i : decide ((DN : Int) < (DX : Int)) = false := decide_eq_false (by omega)
            clear hfin hc2
            go_wp2_with fail
            go_ret2
            exact ⟨by rw [HFN.out]; rfl, HK6.out⟩
      · have h63i : ((m : Int) == 9223372036854775808) = false := by rw [beq_eq_false_iff_ne]; omega
        clear hLG hlw hMNe hMXe hODe hs h63 hq hrr hpY hpY2 hZ hY hZ2
        go_enter Tryd.func57, Tryd.ntmps57
        go_wp2_with fail
        refine (HLW.out w).mono ?_
        rintro r w1 ⟨rfl, rfl⟩
        have hzd := Tryd.zeroSc
        go_upto_region 28 with fail
        have hb : ScAt (w.alloc (.cells #[.int .u64 0, .int .u64 0, .int .i64 0] 79)) w.heap.size 0 0 0 := Blk.new w [.int .u64 0, .int .u64 0, .int .i64 0] 79
        have hkA : Keeps Nil w (w.alloc (.cells #[.int .u64 0, .int .u64 0, .int .i64 0] 79)) := (Keeps.refl _ _).alloc _
        generalize w.alloc (.cells #[.int .u64 0, .int .u64 0, .int .i64 0] 79) = wA at *
        have hgl := HT.out.lt
        obtain ⟨g0, hg0⟩ : ∃ g, w.heap.size = g := ⟨_, rfl⟩
        have hgw : w.heap.size ≤ g0 := by omega
        have hne : g0 ≠ 3 := by omega
        rw [hg0] at hb ⊢
        have HB := Lib.hid hb
        have HKA := Lib.hid hkA
        have HTA := Lib.hid (HT.out.keep hkA)
        clear hb hkA hg0 hgl hzd
        go_wp2_with fail
        refine (log2_walk P wA (by omega)).mono ?_
        rintro r w2 ⟨rfl, rfl⟩
        obtain ⟨lp, hlp⟩ : ∃ lp, lp = P * 108853 / 32768 := ⟨_, rfl⟩
        have hlpb : -2000 ≤ lp ∧ lp ≤ 2000 := by omega
        rw [← hlp]
        have HLP := Lib.hid hlp
        clear hlp
        go_wp2_with fail
        refine (prescale_walk HB.out HTA.out hne e P lp iP hiP (by omega) (by omega) (by omega)).mono ?_
        rintro r w3 ⟨rfl, hs3, hk3⟩
        have hpw := pow_lt (i := iP) (by omega)
        obtain ⟨S, hS⟩ : ∃ S, S = -(e + lp + 3) := ⟨_, rfl⟩
        rw [← hS] at hs3
        have HSR2 : Hid (shortR m e P MN MX OD = if ceilN (nudgeN (uscaleN MN (powHi iP) (powLo iP) (S % 64).toNat) OD) ≤ floorN (nudgeN (uscaleN MX (powHi iP) (powLo iP) (S % 64).toNat) (-OD)) / 10 * 10 then (floorN (nudgeN (uscaleN MX (powHi iP) (powLo iP) (S % 64).toNat) (-OD)) / 10, -(P - 1)) else if ceilN (nudgeN (uscaleN MN (powHi iP) (powLo iP) (S % 64).toNat) OD) < floorN (nudgeN (uscaleN MX (powHi iP) (powLo iP) (S % 64).toNat) (-OD)) then (roundN (uscaleN m (powHi iP) (powLo iP) (S % 64).toNat), -P) else (ceilN (nudgeN (uscaleN MN (powHi iP) (powLo iP) (S % 64).toNat) OD), -P)) := Lib.hid (by
          have hi : (P + 348).toNat = iP := by omega
          unfold shortR
          rw [hi, ← HLP.out, ← hS])
        have HPW := Lib.hid hpw
        have HKw := Lib.hid (HKA.out.step hk3 (fun k hk => .inr (by rw [show k = g0 from hk]; exact hgw)))
        have HU1 := Lib.hid (uscale_walk hs3 MN hMN hpw.1 hpw.2)
        have HS3 := Lib.hid hs3
        clear hs3 hk3 hpw hS
        generalize powHi iP = H at *
        generalize powLo iP = L at *
        obtain ⟨sh, hsh⟩ : ∃ sh, (S % 64).toNat = sh := ⟨_, rfl⟩
        rw [hsh] at HU1 HSR2
        have hSh := Lib.hid hsh
        clear hsh
        have hU1 : uscaleN MN H L sh < W64 := uscale_lt _ _ _ _ hMN HPW.out.1
        have hU2 : uscaleN MX H L sh < W64 := uscale_lt _ _ _ _ hMX HPW.out.1
        have hU3 : uscaleN m H L sh < W64 := uscale_lt _ _ _ _ hm HPW.out.1
        generalize uscaleN MN H L sh = U1 at *
        go_wp2_with fail
        refine HU1.out.mono ?_
        rintro r w4 ⟨rfl, hk4⟩
        have HS4 := Lib.hid (Blk.keep HS3.out hk4 (fun h => h))
        have HK4 := Lib.hid (HKw.out.trans hk4)
        clear hk4 HU1
        go_wp2_with fail
        refine (nudge_walk U1 OD w4 hU1 hOD).mono ?_
        rintro r w5 ⟨rfl, rfl⟩
        have hn1 : nudgeN U1 OD < W64 := by unfold nudgeN W64; omega
        generalize nudgeN U1 OD = N1 at *
        go_wp2_with fail
        refine (ceil_walk N1 w4 hn1).mono ?_
        rintro r w5 ⟨rfl, rfl⟩
        have hdn : ceilN N1 < 4611686018427387904 := by unfold ceilN W64; omega
        generalize ceilN N1 = DN at *
        have HU2 := Lib.hid (uscale_walk HS4.out MX hMX HPW.out.1 HPW.out.2)
        rw [hSh.out] at HU2
        generalize uscaleN MX H L sh = U2 at *
        go_wp2_with fail
        refine HU2.out.mono ?_
        rintro r w6 ⟨rfl, hk6⟩
        have HS6 := Lib.hid (Blk.keep HS4.out hk6 (fun h => h))
        have HK6 := Lib.hid (HK4.out.trans hk6)
        clear hk6 HU2
        go_wp2_with fail
        refine (nudge_walk U2 (-OD) w6 hU2 (by omega)).mono ?_
        rintro r w7 ⟨rfl, rfl⟩
        have hn2 : nudgeN U2 (-OD) < W64 := by unfold nudgeN W64; omega
        generalize nudgeN U2 (-OD) = N2 at *
        go_wp2_with fail
        refine (floor_walk N2 w6 hn2).mono ?_
        rintro r w7 ⟨rfl, rfl⟩
        have hdx : floorN N2 < 4611686018427387904 := by unfold floorN W64 at *; omega
        generalize floorN N2 = DX at *
        have hfin := HS.out.trans HSR2.out
        obtain ⟨DQ, hDQ⟩ : ∃ q, q = DX / 10 := ⟨_, rfl⟩
        have hdq : (DX : Int) / 10 = (DQ : Int) := by omega
        have hDQb : DQ * 10 < 18446744073709551616 := by omega
        rw [← hDQ] at hfin
        clear hDQ HSR2 HS
        by_cases hc1 : DN ≤ DQ * 10
        · rw [if_pos hc1] at hfin
          have HFN := Lib.hid hfin
          have hc1i : (DN : Int) ≤ (DQ : Int) * 10 := by omega
          have hc1d : decide ((DN : Int) ≤ (DQ : Int) * 10) = true := decide_eq_true hc1i
          clear hfin hc1
          go_wp2_with fail
          go_ret2
          exact ⟨by rw [HFN.out]; rfl, HK6.out⟩
        · rw [if_neg hc1] at hfin
          have hc1i : ¬ (DN : Int) ≤ (DQ : Int) * 10 := by omega
          have hc1d : decide ((DN : Int) ≤ (DQ : Int) * 10) = false := decide_eq_false hc1i
          clear hc1
          by_cases hc2 : DN < DX
          · rw [if_pos hc2] at hfin
            have HFN := Lib.hid hfin
            have hc2d : decide (DN < DX) = true := decide_eq_true hc2
            have hc2i : decide ((DN : Int) < (DX : Int)) = true := decide_eq_true (by omega)
            have HU3 := Lib.hid (uscale_walk HS6.out m hm HPW.out.1 HPW.out.2)
            rw [hSh.out] at HU3
            clear hfin hc2
            generalize uscaleN m H L sh = U3 at *
            go_wp2_with fail
            refine HU3.out.mono ?_
            rintro r w7 ⟨rfl, hk7⟩
            have HK7 := Lib.hid (HK6.out.trans hk7)
            clear hk7 HU3
            go_wp2_with fail
            refine (round_walk U3 w7 hU3).mono ?_
            rintro r w8 ⟨rfl, rfl⟩
            go_wp2_with fail
            go_ret2
            exact ⟨by rw [HFN.out]; rfl, HK7.out⟩
          · rw [if_neg hc2] at hfin
            have HFN := Lib.hid hfin
            have hc2d : decide (DN < DX) = false := decide_eq_false hc2
            have hc2i : decide ((DN : Int) < (DX : Int)) = false := decide_eq_false (by omega)
            clear hfin hc2
            go_wp2_with fail
            go_ret2
            exact ⟨by rw [HFN.out]; rfl, HK6.out⟩
end Go.Proofs.YtmlfekcnpmlfkaaDoor
