/-
  Slots: what no state holds is made zeros.
-/
import Derived.Test.YtkefbgkdkmkghaaDoorSlotsRead
namespace Go.Proofs.YtkefbgkdkmkghaaDoor
set_option linter.unusedSimpArgs false
set_option linter.unusedVariables false
open Go.RowKit

theorem write_free {d : Dk} (ho : d.off = false) (hl : d.left = -1) {i : Nat} (hi : i < d.vs.length) {b : List Int} (hb : b.length = 128) : d.write i b = (d.put i b, none) := by
  have hg : (d.put i b).goes = d.put i b := by
    unfold Dk.goes Dk.put
    simp only [hl, ho]
    rfl
  unfold Dk.write
  rw [ho, if_neg (by simp), if_neg (by omega)]
  simp only [Int.toNat_natCast, hg]
  have : (d.put i b).off = false := ho
  simp only [this]
  rfl
theorem sync_free {d : Dk} (ho : d.off = false) (hl : d.left = -1) : d.sync = (d.settle, none) := by
  have hg : d.goes = d := by
    unfold Dk.goes
    simp only [hl]
    cases d
    simp only at ho hl
    subst ho hl
    rfl
  unfold Dk.sync
  rw [ho, if_neg (by simp), hg, ho, if_neg (by simp)]
theorem scrub_none {d : Dk} {s : Sv} : ∀ j, d.anyTo s j = false → d.scrub s j = d
  | 0, _ => by
    have h : d.dirty s 0 = false := by unfold Dk.dirty; rfl
    rw [← scrub_same h, scrub_zero]
  | j + 1, h => by
    rw [anyTo_succ, Bool.or_eq_false_iff] at h
    rw [scrub_same h.2, scrub_none j h.1]
theorem grew_nil {w w' : World} {R : Roles} (h : Keeps Nil w w') : Grew w w' R R := Grew.of_nil R h
set_option maxRecDepth 20000 in
set_option maxHeartbeats 6400000 in
theorem clean_walk {w0 w : World} {p g : Nat} {R : Roles} {d : Dk} {s : Sv} {pe : Nat → Addr} (hE : Err2 w0 pe) (hM : Mine w0 w p R d) (hs : SlAt w g p s) (hg : R g = 0) {m : Nat} (hok : d.Ok m) (hm : m ≤ 100000) (ho : d.off = false) (hl : d.left = -1) (h1 : 1 ≤ d.vs.length) (hh : s.half ≤ 1000) (hmy : s.many ≤ 1000000) :
    Calls Tryd.prog 53 #[.pointer (some ⟨g, 0, none⟩)] w (MineP w0 w p R (d.cleaned s) .nilIface) := by
  have h4 := hok.size
  have HE := Lib.hid hE
  have HM := Lib.hid hM
  have HSL := Lib.hid hs
  have HG0 := Lib.hid hg
  have HOK := Lib.hid hok
  have HOL := Lib.hid (And.intro ho hl)
  have HNO : Hid (errO pe none = .nilIface) := Lib.hid rfl
  obtain ⟨n, hn⟩ : ∃ n, n = d.vs.length := ⟨_, rfl⟩
  have HN := Lib.hid hn
  rw [← hn] at h1 h4
  obtain ⟨F, hF⟩ : ∃ F, F = d.first s.half := ⟨_, rfl⟩
  obtain ⟨T, hT⟩ : ∃ T, T = takesN s.many := ⟨_, rfl⟩
  have hFb : F ≤ 1000000 := by
    have he : d.each ≤ 200 := by unfold Dk.each; rw [← hn]; omega
    have := Nat.mul_le_mul hh he
    rw [hF]; unfold Dk.first; omega
  have hTb : T ≤ 1000000 := by rw [hT]; unfold takesN; omega
  have HUS : Hid (∀ i, d.used s i = (decide (F ≤ i) && decide (i < F + T))) := Lib.hid (fun i => by unfold Dk.used; rw [hF, hT])
  have hfw := fun (w' : World) (R' : Roles) (d' : Dk) (hD : IsDisk w' p R' d') (hs' : SlAt w' g p s) (h' : d'.vs.length = d.vs.length) => first_walk hD hs' (by rw [h', ← hn]; exact h1) (by rw [h', ← hn]; exact h4) s.half hh
  have HFW := Lib.hid hfw
  have HTK := Lib.hid (fun w' => takes_walk s.many w' (by omega))
  rw [← hT] at HTK
  have HF0 := Lib.hid hF
  have c2 := Blk.cell hs 2 rfl
  clear hE hM hs hg hok ho hl hn hF hT hfw
  go_enter Tryd.func53, Tryd.ntmps53
  go_wp2_with fail
  refine (sector_walk (c := 0) (row_none w) (fun _ => ⟨rfl, rfl⟩) (by omega)).mono ?_
  rw [secL_nil]
  rintro e w1 ⟨gz, cz, rfl, hoz, hk1, hfz⟩
  have hoz' := hoz.row (areB_wf zsec_bytes)
  have HRZ := Lib.hid hoz'
  have HM1 := Lib.hid (HM.out.nil hk1)
  have hz0 : R gz = 0 := HM.out.later hfz
  have HZ0 := Lib.hid hz0
  have HG1 := Lib.hid (grew_nil (R := R) hk1)
  have hs1 : SlAt w1 g p s := HSL.out.keep hk1 (fun h => h)
  have c2' := Blk.cell hs1 2 rfl
  have HSL1 := Lib.hid hs1
  have HF1 := Lib.hid (HFW.out w1 R d HM1.out.is hs1 rfl)
  rw [← HF0.out] at HF1
  clear hoz hoz' hk1 hfz hz0 hs1 c2
  go_wp2_with fail
  refine HF1.out.mono ?_
  rintro e w2 ⟨rfl, rfl⟩
  clear HF1 c2'
  go_wp2_with fail
  go_loopw [6, 4, 7, 8, 9] (fun x y _ _ _ wr => ∃ (i : Nat) (R' : Roles), x = .int .i64 i ∧ y = .bool (d.anyTo s i) ∧ 1 ≤ i ∧ i ≤ n ∧ Hid (Mine w0 wr p R' (d.scrub s i)) ∧ Hid (Grew w1 wr R R')) (fun x _ _ _ _ _ => n - (intOf x).toNat)
  case atStart =>
    refine ⟨1, R, rfl, ?_, Nat.le_refl _, h1, ?_, Lib.hid (Grew.refl _ _)⟩
    · have : d.anyTo s 1 = false := by unfold Dk.anyTo Dk.dirty; rfl
      rw [this]
    · rw [scrub_zero]; exact HM1
  case round =>
    obtain ⟨i, R', rfl, rfl, hi1, hin', hMi, hGi⟩ := hrel
    have hsi : SlAt wr g p s := HSL1.out.keep hGi.out.keeps (wr_not HG0.out)
    have c0 := Blk.cell hsi 0 rfl
    have c3 := Blk.cell hsi 3 rfl
    have HSZ := Lib.hid (size_walk hMi.out.is)
    rw [scrub_len, ← HN.out] at HSZ
    have HRZi := Lib.hid (HRZ.out.keepN hGi.out.keeps (fun _ k hk => by rw [(blkOf_some _ _ _ _).1 hk]; exact wr_not HZ0.out))
    clear hsi
    by_cases hin : i < n
    · have hin2 : (i : Int) < n := by omega
      have hii : IntKind.i64.wrap ((i : Int) + 1) = ((i + 1 : Nat) : Int) := by rw [IntKind.wrap_i64]; omega
      obtain ⟨B, hB⟩ : ∃ B, B = lastV (d.at_ i) := ⟨_, rfl⟩
      have HB := Lib.hid hB
      have hlv := lastV_okS HOK.out (i := i) (by rw [← HN.out]; exact hin)
      rw [← hB] at hlv
      have HLV := Lib.hid hlv
      have HOKI := Lib.hid (scrub_ok HOK.out s i)
      have hrd : (d.scrub s i).readE i = none ∧ (d.scrub s i).readV i = lastV ((d.scrub s i).at_ i) := readOn (d := d.scrub s i) HOL.out.1 (by rw [scrub_len, ← HN.out]; exact hin)
      rw [scrub_at (by rw [← HN.out]; exact hin), show (decide (i < i) && d.dirty s i) = false by simp] at hrd
      have hmr := mine_read HE.out hMi.out HOKI.out (i : Int)
      rw [hrd.1, hrd.2, if_neg (by simp), ← hB, hlv.1, HNO.out] at hmr
      have HMR := Lib.hid hmr
      clear hB hlv hrd hmr
      go_wp2_with fail
      refine HSZ.out.mono ?_
      rintro e w2 ⟨rfl, rfl⟩
      clear HSZ
      by_cases hF1 : F ≤ i
      · have hF2 : (F : Int) ≤ i := by omega
        by_cases hT1 : i < F + T
        · have hT2 : (i : Int) < F + T := by omega
          have hu : d.used s i = true := by rw [HUS.out]; simp [hF1, hT1]
          have hd : d.dirty s i = false := by unfold Dk.dirty; rw [hu]; simp
          have h2 := hMi.out
          rw [← scrub_same hd] at h2
          have HMn := Lib.hid h2
          have HAn : Hid (d.anyTo s i = d.anyTo s (i + 1)) := Lib.hid (by rw [anyTo_succ, hd, Bool.or_false])
          clear hu hd h2 HMR
          go_wp2_with fail
          refine (HTK.out wr).mono ?_
          rintro e w3 ⟨rfl, rfl⟩
          go_wp2_with fail
          go_roundw
          case rel => exact ⟨i + 1, R', by simp, HAn.out ▸ rfl, by omega, by omega, HMn, hGi⟩
          case measure => first | (simp [intOf]; done) | (simp [intOf]; omega)
        · have hT2 : ¬ (i : Int) < F + T := by omega
          have HUI : Hid (d.used s i = false) := Lib.hid (by rw [HUS.out]; simp [hT1])
          go_wp2_with fail
          refine (HTK.out wr).mono ?_
          rintro e w3 ⟨rfl, rfl⟩
          go_wp2_with fail
          refine HMR.out.mono ?_
          rintro e w3 ⟨ab, cb, rfl, hob, hM3, hk3, _⟩
          have HM3 := Lib.hid (And.intro hM3 (hGi.out.trans (grew_nil hk3)))
          have HEQ := Lib.hid (equal_walk (ca := cb) (cb := cz) (hob.row (areB_wf HLV.out.2)) (HRZi.out.keep hk3))
          have HRZ3 := Lib.hid (HRZi.out.keep hk3)
          clear hM3 hk3 hob HMR
          go_wp2_with fail
          refine HEQ.out.mono ?_
          rintro e w4 ⟨rfl, hk4⟩
          have HM4 := Lib.hid (And.intro (HM3.out.1.nil hk4) (HM3.out.2.trans (grew_nil hk4)))
          have HRZ4 := Lib.hid (HRZ3.out.keep hk4)
          have hs4 : SlAt w4 g p s := HSL1.out.keep HM4.out.2.keeps (wr_not HG0.out)
          have c0' := Blk.cell hs4 0 rfl
          clear hk4 HM3 HRZ3 HEQ
          cases hbz : sameL B zsec with
          | true =>
            have hd : d.dirty s i = false := by unfold Dk.dirty; rw [← HB.out, sameL_eq.1 hbz]; simp
            have h2 := HM4.out
            rw [← scrub_same hd] at h2
            have HMn := Lib.hid h2
            have HAn : Hid (d.anyTo s i = d.anyTo s (i + 1)) := Lib.hid (by rw [anyTo_succ, hd, Bool.or_false])
            clear h2 hd hbz
            go_wp2_with fail
            go_roundw
            case rel => exact ⟨i + 1, R', by simp, HAn.out ▸ rfl, by omega, by omega, Lib.hid HMn.out.1, Lib.hid HMn.out.2⟩
            case measure => first | (simp [intOf]; done) | (simp [intOf]; omega)
          | false =>
            have hd : d.dirty s i = true := by
              unfold Dk.dirty
              rw [← HB.out, HUI.out]
              have : (B != zsec) = true := by simpa [sameL] using hbz
              rw [this]
              simp; omega
            have HD := Lib.hid hd
            have HW := Lib.hid (mine_write HE.out HM4.out.1 HOKI.out (by omega) (i : Int) (cb := cz) HRZ4.out)
            rw [write_free (d := d.scrub s i) HOL.out.1 HOL.out.2 (by rw [scrub_len, ← HN.out]; exact hin) zsec_len, scrub_put (by rw [← HN.out]; exact hin) hd, HNO.out] at HW
            clear hd hbz
            go_wp2_with fail
            refine HW.out.mono ?_
            rintro e w5 ⟨R5, rfl, hM5, hG5⟩
            have HMn := Lib.hid (And.intro hM5 (HM4.out.2.trans hG5))
            have HAn : Hid (true = d.anyTo s (i + 1)) := Lib.hid (by rw [anyTo_succ, HD.out, Bool.or_true])
            clear hM5 hG5 HM4 HW
            go_wp2_with fail
            go_roundw
            case rel => exact ⟨i + 1, R5, by simp, HAn.out ▸ rfl, by omega, by omega, Lib.hid HMn.out.1, Lib.hid HMn.out.2⟩
            case measure => first | (simp [intOf]; done) | (simp [intOf]; omega)
      · have hF2 : ¬ (F : Int) ≤ i := by omega
        have HUI : Hid (d.used s i = false) := Lib.hid (by rw [HUS.out]; simp [hF1])
        go_wp2_with fail
        refine HMR.out.mono ?_
        rintro e w3 ⟨ab, cb, rfl, hob, hM3, hk3, _⟩
        have HM3 := Lib.hid (And.intro hM3 (hGi.out.trans (grew_nil hk3)))
        have HEQ := Lib.hid (equal_walk (ca := cb) (cb := cz) (hob.row (areB_wf HLV.out.2)) (HRZi.out.keep hk3))
        have HRZ3 := Lib.hid (HRZi.out.keep hk3)
        clear hM3 hk3 hob HMR
        go_wp2_with fail
        refine HEQ.out.mono ?_
        rintro e w4 ⟨rfl, hk4⟩
        have HM4 := Lib.hid (And.intro (HM3.out.1.nil hk4) (HM3.out.2.trans (grew_nil hk4)))
        have HRZ4 := Lib.hid (HRZ3.out.keep hk4)
        have hs4 : SlAt w4 g p s := HSL1.out.keep HM4.out.2.keeps (wr_not HG0.out)
        have c0' := Blk.cell hs4 0 rfl
        clear hk4 HM3 HRZ3 HEQ
        cases hbz : sameL B zsec with
        | true =>
          have hd : d.dirty s i = false := by unfold Dk.dirty; rw [← HB.out, sameL_eq.1 hbz]; simp
          have h2 := HM4.out
          rw [← scrub_same hd] at h2
          have HMn := Lib.hid h2
          have HAn : Hid (d.anyTo s i = d.anyTo s (i + 1)) := Lib.hid (by rw [anyTo_succ, hd, Bool.or_false])
          clear h2 hd hbz
          go_wp2_with fail
          go_roundw
          case rel => exact ⟨i + 1, R', by simp, HAn.out ▸ rfl, by omega, by omega, Lib.hid HMn.out.1, Lib.hid HMn.out.2⟩
          case measure => first | (simp [intOf]; done) | (simp [intOf]; omega)
        | false =>
          have hd : d.dirty s i = true := by
            unfold Dk.dirty
            rw [← HB.out, HUI.out]
            have : (B != zsec) = true := by simpa [sameL] using hbz
            rw [this]
            simp; omega
          have HD := Lib.hid hd
          have HW := Lib.hid (mine_write HE.out HM4.out.1 HOKI.out (by omega) (i : Int) (cb := cz) HRZ4.out)
          rw [write_free (d := d.scrub s i) HOL.out.1 HOL.out.2 (by rw [scrub_len, ← HN.out]; exact hin) zsec_len, scrub_put (by rw [← HN.out]; exact hin) hd, HNO.out] at HW
          clear hd hbz
          go_wp2_with fail
          refine HW.out.mono ?_
          rintro e w5 ⟨R5, rfl, hM5, hG5⟩
          have HMn := Lib.hid (And.intro hM5 (HM4.out.2.trans hG5))
          have HAn : Hid (true = d.anyTo s (i + 1)) := Lib.hid (by rw [anyTo_succ, HD.out, Bool.or_true])
          clear hM5 hG5 HM4 HW
          go_wp2_with fail
          go_roundw
          case rel => exact ⟨i + 1, R5, by simp, HAn.out ▸ rfl, by omega, by omega, Lib.hid HMn.out.1, Lib.hid HMn.out.2⟩
          case measure => first | (simp [intOf]; done) | (simp [intOf]; omega)
    · obtain rfl : i = n := by omega
      have hin2 : ¬ (i : Int) < i := by omega
      clear HRZi
      go_wp2_with fail
      refine HSZ.out.mono ?_
      rintro e w2 ⟨rfl, rfl⟩
      clear HSZ
      have c0w := c0
      cases ha : d.anyTo s i with
      | false =>
        have hc : d.cleaned s = d := by unfold Dk.cleaned; rw [← HN.out, ha, if_neg (by simp)]
        have hsc : d.scrub s i = d := scrub_none i ha
        have HFI := Lib.hid (And.intro hMi.out (HG1.out.trans hGi.out))
        rw [hsc] at HFI
        have HCL := Lib.hid hc
        clear hc hsc
        go_wp2_with fail
        go_ret
        exact ⟨R', rfl, by rw [HCL.out]; exact HFI.out.1, HFI.out.2⟩
      | true =>
        have hc : d.cleaned s = (d.scrub s i).settle := by unfold Dk.cleaned; rw [← HN.out, ha, if_pos rfl]
        have HCL := Lib.hid hc
        have HSY := Lib.hid (mine_sync HE.out hMi.out (scrub_ok HOK.out s i) (by omega))
        have hsf : (d.scrub s i).sync = ((d.scrub s i).settle, none) := sync_free HOL.out.1 HOL.out.2
        rw [hsf, HNO.out] at HSY
        clear hc hsf
        go_wp2_with fail
        refine HSY.out.mono ?_
        rintro e w5 ⟨rfl, hM5, hk5⟩
        have HF := Lib.hid (And.intro hM5 (HG1.out.trans (hGi.out.trans (grew_of hk5))))
        clear hM5 hk5
        go_wp2_with fail
        go_ret
        exact ⟨R', rfl, by rw [HCL.out]; exact HF.out.1, HF.out.2⟩
end Go.Proofs.YtkefbgkdkmkghaaDoor
