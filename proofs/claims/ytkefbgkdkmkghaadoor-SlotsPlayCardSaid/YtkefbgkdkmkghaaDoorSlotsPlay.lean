/-
  SlotsPlay: whatever is saved, with power or without, opened again: all as the document's slots say.
-/
import Derived.Test.YtkefbgkdkmkghaaDoorSlotsTwo
import Derived.Test.YtkefbgkdkmkghaaDoorDos
namespace Go.Proofs.YtkefbgkdkmkghaaDoor
set_option linter.unusedSimpArgs false
set_option linter.unusedVariables false
open Go.RowKit

theorem Tryd.zeroDo10 (w : World) : (zeroValue 74).run Tryd.prog w = .ok (.agg [.int .i64 0, .int .i64 0, .int .i64 0, .slice none 0 0].toArray) w := by kernel_rfl
set_option maxRecDepth 100000 in
set_option maxHeartbeats 6400000 in
theorem slotsPlay_walk (a0 : Int) (a1 : Option Addr) (len1 cap1 : Nat) (z : Nat → DoRow) (w : World) {p : Nat → Addr} (wf0 : (Lit.int .i64 a0).wf = true) (w1 : IsDos w a1 len1 z) (hE : Errs w p) :
    Calls Tryd.prog 12 #[.int .i64 a0, .slice a1 len1 cap1] w fun e w' => e = .returned (.bool true) ∧ Keeps Nil w w' := by
  have HE := Lib.hid hE
  have HFI := Lib.hid (slotsfirst_walk hE.s)
  have HL0 := Lib.hid w1
  have hw0 := i64_wf wf0
  have hm1 := w1.most
  clear hE w1 wf0
  by_cases hlen : len1 ≤ 40
  · have hl1i : ¬ ((40 : Int) < len1) := by omega
    obtain ⟨n, hn⟩ : ∃ n : Nat, a0 % 12 + 1 = (n : Int) := ⟨(a0 % 12 + 1).toNat, by omega⟩
    have hn1 : 1 ≤ n := by omega
    have hn12 : n ≤ 12 := by omega
    have HNA := Lib.hid (fun w => number_walk a0 12 w hw0.1 hw0.2 (by omega) (by omega))
    have hnw := fun w => new_walk w (n : Int)
    have hnr := fun w => refnew_walk w (n : Int)
    rw [show newN (n : Int) = n by unfold newN; omega] at hnw hnr
    have HNW := Lib.hid hnw
    have HNR := Lib.hid hnr
    have hA1 : a0 % 12 = ((n - 1 : Nat) : Int) := by omega
    have HA1 := Lib.hid hA1
    have hn3 : IntKind.i64.wrap (((n - 1 : Nat) : Int) + 1) = (n : Int) := by rw [IntKind.wrap_i64]; omega
    clear hw0 hn hnw hnr hA1
    go_enter Tryd.func12, Tryd.ntmps12
    go_wp2_with fail
    refine HFI.out.mono ?_
    rintro e w1 ⟨rfl, hk1⟩
    have HK1 := Lib.hid hk1
    have HEW := Lib.hid (HE.out.keep hk1)
    have HL := Lib.hid (HL0.out.keep hk1)
    clear hk1 HFI HL0
    go_wp2_with fail
    refine (HNA.out w1).mono ?_
    rintro e w2 ⟨rfl, rfl⟩
    rw [HA1.out]
    obtain ⟨n3, hnn3⟩ : ∃ x : Int, x = ((n - 1 : Nat) : Int) := ⟨_, rfl⟩
    have hn3b : n3 + 1 = n := by omega
    rw [← hnn3] at hn3 ⊢
    clear hnn3
    go_wp2_with fail
    refine (HNW.out w1).mono ?_
    rintro e w2 hN2
    obtain ⟨pd, R, rfl, hM⟩ := hN2.mine
    have HM := Lib.hid hM
    clear hN2 hM HNW
    go_wp2_with fail
    refine (HNR.out w2).mono ?_
    rintro e w3 hN3
    obtain ⟨qd, Q, rfl, hD⟩ := hN3.duo HM.out
    have HO := Lib.hid (duo_open HEW.out.s hD (new_clean n).near (new_clean n).ones (zero_state n) (Dk.new_ok (show n ≤ 400 by omega)) rfl rfl hn1 (by omega))
    clear hN3 hD HM HNR hn3 HA1 HNA
    go_wp2_with fail
    refine HO.out.mono ?_
    rintro e w4 ⟨g0, R4, rfl, hH4, _⟩
    have HX := Lib.hid (half_open hH4 (new_clean n).near (new_clean n).ones (zero_state n) (Dk.new_ok (show n ≤ 400 by omega)) rfl rfl hn1 (by omega))
    clear hH4 HO
    go_wp2_with fail
    refine HX.out.mono ?_
    rintro e w5 ⟨gx0, Q5, rfl, hP5⟩
    have HP5 := Lib.hid hP5
    have HSt5 := Lib.hid (Stands.clean (i := 0) (near_clean (new_clean n).near (new_clean n).ones) (zero_state n) (Nat.le_refl _) (cleaned_ok (Dk.new_ok (show n ≤ 400 by omega)) ⟨0, 0, 0⟩))
    have HOF5 : Hid (((Dk.new n).cleaned ⟨0, 0, 0⟩).off = false) := Lib.hid ((cleaned_left (Dk.new n) ⟨0, 0, 0⟩).2.trans rfl)
    have HIN := Lib.hid (fun w' (hk : Keeps Nil w1 w') => show Calls Tryd.prog 21 #[.nilIface, .int .i64 0] w' (fun e w'' => e = .returned (.bool true) ∧ Keeps Nil w' w'') from is_O (HEW.out.keep hk) none (fun k hk => by cases hk))
    have HIN5 := Lib.hid (HIN.out w5 hP5.duo.mine.keeps)
    generalize (Dk.new n).cleaned ⟨0, 0, 0⟩ = d0 at *
    clear hP5 HX
    go_wp2_with fail
    refine HIN5.out.mono ?_
    rintro e w6 ⟨rfl, hk6⟩
    have HP6 := Lib.hid (HP5.out.nil hk6)
    clear hk6 HP5 HIN5
    go_wp2_with fail
    go_loopw [12, 8, 10, 13, 14, 15, 16, 17, 18, 19, 20, 21, 22, 23, 24, 25, 26] (fun x s8 s10 _ _ _ _ _ _ _ _ _ _ _ _ _ _ wr => ∃ (i g gx : Nat) (R Q : Roles) (s : Sv) (d : Dk), x = .int .i64 i ∧ s8 = .pointer (some ⟨g, 0, none⟩) ∧ s10 = .pointer (some ⟨gx, 0, none⟩) ∧ i ≤ len1 ∧ Hid (Pair w1 wr pd qd g gx R Q s s d d) ∧ Hid (Stands n s d i) ∧ Hid (d.off = false)) (fun x _ _ _ _ _ _ _ _ _ _ _ _ _ _ _ _ _ => len1 - (intOf x).toNat)
    case atStart => exact ⟨0, g0, gx0, R4, Q5, _, d0, rfl, rfl, rfl, Nat.zero_le _, HP6, HSt5, HOF5⟩
    case round =>
      obtain ⟨i, g, gx, R, Q, s, d, rfl, rfl, rfl, hi, hP, hStP, hoff⟩ := hrel
      clear HP6 HSt5 HOF5
      by_cases hil : i < len1
      · have hi1 : (i : Int) < len1 := by omega
        have hi0 : (0 : Int) ≤ i := by omega
        obtain ⟨c, hc, hst, hsi⟩ := hStP.out.on hoff.out
        have HCL := Lib.hid (And.intro (And.intro hc (ok_one hStP.out.ok hc.ones)) (And.intro hst hsi))
        have hz := HL.out.keep hP.out.duo.mine.keeps
        obtain ⟨b, off, ha, hbl, hcell⟩ := hz.cell (by omega)
        subst ha
        obtain ⟨h3, c3⟩ := hcell i hil
        have c0 := h3 0 (by omega)
        have c1 := h3 1 (by omega)
        have c2 := h3 2 (by omega)
        rw [Nat.add_zero] at c0
        rw [← Nat.add_assoc] at c1 c2 c3
        have wfA := hz.wf i 0 hil (by omega)
        have wfB := hz.wf i 1 hil (by omega)
        have HRW := Lib.hid (HL.out.row i hil)
        clear hcell h3 hz hc hst hsi
        generalize (z i).num 0 = A at *
        generalize (z i).num 1 = B at *
        generalize (z i).num 2 = C at *
        generalize (z i).at_ = la at *
        generalize (z i).len = ll at *
        generalize (z i).cap = lc at *
        generalize (z i).row = lr at *
        have hzd := Tryd.zeroDo10
        obtain ⟨wA, g9, hg9, hb9, hwA, hkA⟩ := alloc1 wr [.int .i64 A, .int .i64 B, .int .i64 C, .slice la ll lc] 74
        have HWA : Hid (wr.alloc (.cells #[.int .i64 A, .int .i64 B, .int .i64 C, .slice la ll lc] 74) = wA) := Lib.hid hwA.symm
        have HGM := Lib.hid hg9.symm
        have H9 := Lib.hid (hP.out.duo.later (Nat.le_of_eq hg9.symm))
        have H9N := Lib.hid (show g9 ≠ g ∧ g9 ≠ gx from ⟨by have := hP.out.sl.lt; omega, by have := hP.out.rs.lt; omega⟩)
        have hPA := Lib.hid (hP.out.nil hkA)
        have HB9 := Lib.hid hb9
        obtain ⟨kd, hkd⟩ : ∃ kd, kd = A % 7 := ⟨_, rfl⟩
        have hk7 : kd = 0 ∨ kd = 1 ∨ kd = 2 ∨ kd = 3 ∨ kd = 4 ∨ kd = 5 ∨ kd = 6 := by omega
        have HNK := Lib.hid (fun w => number_walk A 7 w wfA.1 wfA.2 (by omega) (by omega))
        rw [← hkd] at HNK
        clear hb9 hg9 hwA hkA hkd hP
        go_upto_region 19 with fail
        rw [HWA.out, HGM.out]
        have e0 := HB9.out.cell 0 rfl
        have e1 := HB9.out.cell 1 rfl
        have e2 := HB9.out.cell 2 rfl
        have e3 := HB9.out.cell 3 rfl
        clear c0 c1 c2 c3 hzd
        go_wp2_with fail
        refine (HNK.out wA).mono ?_
        rintro e w4 ⟨rfl, rfl⟩
        go_upto_block 2 with fail
        go_cut [8, 10, 14, 15, 16, 17, 18, 19, 20, 21, 22] from 74 to 164 (fun s8 s10 _ _ _ _ _ _ _ _ _ wx => ∃ (g gx : Nat) (R' Q' : Roles) (s' : Sv) (d' : Dk), s8 = .pointer (some ⟨g, 0, none⟩) ∧ s10 = .pointer (some ⟨gx, 0, none⟩) ∧ Hid (Pair w1 wx pd qd g gx R' Q' s' s' d' d') ∧ Hid (Stands n s' d' (i + 1)) ∧ Hid (d'.off = true → wx.cell? ⟨g9, 3, none⟩ = some (.slice la ll lc) ∧ R' g9 = 0 ∧ Q' g9 = 0))
        case first =>
          rcases hk7 with rfl | rfl | rfl | rfl | rfl | rfl | rfl
          · skip
            go_upto_region 20 with fail
            have hlen := hStP.out.len
            have hrm := refroom_walk hPA.out.duo.ref hPA.out.rs (by rw [hlen]; exact hn1) (by rw [hlen]; omega)
            rw [room_eq hlen] at hrm
            obtain ⟨RM, hRM⟩ : ∃ RM, RM = (n - 1) / 2 * 128 := ⟨_, rfl⟩
            rw [← hRM] at hrm
            have hRMb : RM ≤ 800 := by omega
            have hwr : IntKind.i64.wrap ((RM : Int) + 3) = (RM : Int) + 3 := by rw [IntKind.wrap_i64]; omega
            obtain ⟨kk, hkk⟩ : ∃ kk : Nat, B % ((RM : Int) + 3) = (kk : Int) := ⟨(B % ((RM : Int) + 3)).toNat, by have := Int.emod_nonneg B (b := (RM : Int) + 3) (by omega); omega⟩
            have hkb : kk ≤ 1000 := by have := Int.emod_lt_of_pos B (b := (RM : Int) + 3) (by omega); omega
            have hnb := fun w' => number_walk B ((RM : Int) + 3) w' wfB.1 wfB.2 (by omega) (by omega)
            rw [hkk] at hnb
            have hfl := fun w' => file_walk C kk w' (by omega)
            obtain ⟨FB, hFB⟩ : ∃ FB, FB = fileL C kk := ⟨_, rfl⟩
            have hbl : FB.length = kk := by rw [hFB]; exact fileL_len _ _
            have hbb : AreB FB := by rw [hFB]; exact fileL_bytes _ _
            rw [← hFB] at hfl
            have HRM := Lib.hid hrm
            have HNB := Lib.hid hnb
            have HFL := Lib.hid hfl
            have HBL := Lib.hid hbl
            have HBB := Lib.hid hbb
            clear hrm hnb hfl hFB hbl hbb hkk hlen
            refine wp_region_held_drew (S := fun w' => w'.cell? ⟨g9, 1, none⟩ = some (.int .i64 B) ∧ w'.cell? ⟨g9, 2, none⟩ = some (.int .i64 C)) (by kernel_rfl) ⟨e1, e2⟩ (fun hHeld => ?_)
            have hkd : Keeps Nil wA wA.drew := (Keeps.refl Nil wA).drew
            have HRMv := Lib.hid (show Calls Tryd.prog 44 #[.pointer (some ⟨gx, 0, none⟩)] wA.drew (fun e w' => e = .returned (.int .i64 RM) ∧ wA.drew = w') from by
              have hlen := hStP.out.len
              have h := refroom_walk (hPA.out.nil hkd).duo.ref (hPA.out.nil hkd).rs (by rw [hlen]; exact hn1) (by rw [hlen]; omega)
              rw [room_eq hlen, ← hRM] at h
              exact h)
            have HPv := Lib.hid (hPA.out.nil hkd)
            have e3v := hkd.cell e3 (fun h => h)
            clear hkd e0 e1 e2 e3 HRM hRM
            generalize wA.drew = v0 at *
            refine takeL (i := 0) (v := _) rfl (by kernel_rfl) (by kernel_rfl) (by kernel_rfl) (fun _ _ _ h => h) (Or.inl ⟨by rfl, by intro w hSw; (try dsimp only at hSw); go_simp; try with_reducible rfl⟩) (by assumption) ?_
            try simp only [Act.put, List.setIfInBounds_toArray, List.set_cons_zero, List.set_cons_succ]
            refine takeL (i := 1) (v := _) rfl (by kernel_rfl) (by kernel_rfl) (by kernel_rfl) (fun _ _ _ h => h) (Or.inl ⟨by rfl, by intro w hSw; (try dsimp only at hSw); go_simp; try with_reducible rfl⟩) (by assumption) ?_
            try simp only [Act.put, List.setIfInBounds_toArray, List.set_cons_zero, List.set_cons_succ]
            refine takeL (i := 2) (v := _) rfl (by kernel_rfl) (by kernel_rfl) (by kernel_rfl) (fun _ _ _ h => h) (Or.inl ⟨by rfl, by intro w hSw; (try dsimp only at hSw); go_simp; try with_reducible rfl⟩) (by assumption) ?_
            try simp only [Act.put, List.setIfInBounds_toArray, List.set_cons_zero, List.set_cons_succ]
            refine takeL (i := 3) (v := _) rfl (by kernel_rfl) (by kernel_rfl) (by kernel_rfl) (fun _ _ _ h => h) (Or.inl ⟨by rfl, by intro w hSw; (try dsimp only at hSw); go_simp; try with_reducible rfl⟩) (by assumption) ?_
            try simp only [Act.put, List.setIfInBounds_toArray, List.set_cons_zero, List.set_cons_succ]
            refine takeL (i := 4) (v := _) rfl (by kernel_rfl) (by kernel_rfl) (by kernel_rfl) (fun _ _ _ h => h) (Or.inl ⟨by rfl, by intro w hSw; (try dsimp only at hSw); go_simp; try with_reducible rfl⟩) (by assumption) ?_
            try simp only [Act.put, List.setIfInBounds_toArray, List.set_cons_zero, List.set_cons_succ]
            refine onlyL (i := 5) rfl (by kernel_rfl) (fun K hK => ?_)
            go_simp
            refine HRMv.out.mono ?_
            rintro e y1 ⟨rfl, rfl⟩
            refine (fun hHeld => hK _ _ hHeld ?_) (hHeld)
            clear hK
            try simp only [Act.put, List.setIfInBounds_toArray, List.set_cons_zero, List.set_cons_succ]
            refine takeL (i := 6) (v := _) rfl (by kernel_rfl) (by kernel_rfl) (by kernel_rfl) (fun _ _ _ h => h) (Or.inl ⟨by rfl, by intro w hSw; (try dsimp only at hSw); go_simp; try with_reducible rfl⟩) (by assumption) ?_
            try simp only [Act.put, List.setIfInBounds_toArray, List.set_cons_zero, List.set_cons_succ]
            refine onlyL (i := 7) rfl (by kernel_rfl) (fun K hK => ?_)
            go_simp
            refine (HNB.out v0).mono ?_
            rintro e y1 ⟨rfl, rfl⟩
            refine (fun hHeld => hK _ _ hHeld ?_) (hHeld)
            clear hK
            try simp only [Act.put, List.setIfInBounds_toArray, List.set_cons_zero, List.set_cons_succ]
            refine onlyL (i := 8) rfl (by kernel_rfl) (fun K hK => ?_)
            go_simp
            refine (HFL.out v0).mono ?_
            rintro e y2 ⟨af, cf, rfl, hof, hk2, hff⟩
            rw [HBL.out] at hof ⊢
            refine (fun hHeld => hK _ _ hHeld ?_) (⟨hk2.cell hHeld.1 (fun h => h), hk2.cell hHeld.2 (fun h => h)⟩)
            clear hK
            try simp only [Act.put, List.setIfInBounds_toArray, List.set_cons_zero, List.set_cons_succ]
            refine takeL (i := 9) (v := _) rfl (by kernel_rfl) (by kernel_rfl) (by kernel_rfl) (fun _ _ _ h => h) (Or.inl ⟨by rfl, by intro w hSw; (try dsimp only at hSw); go_simp; try with_reducible rfl⟩) (by assumption) ?_
            try simp only [Act.put, List.setIfInBounds_toArray, List.set_cons_zero, List.set_cons_succ]
            refine wpAnyH_done (by kernel_rfl) ?_ _
            have HP2 := Lib.hid (HPv.out.nil hk2)
            have hcf := hof.2.1
            have hcx := hof.2.2.1
            unfold maxLen at hcx
            have hrow := hof.row (areB_wf HBB.out)
            have hffs : ∀ y, blkOf af y → R y = 0 ∧ Q y = 0 ∧ y ≠ g ∧ y ≠ gx := fun y hy => by
              have h1 := hff y hy
              have h2 := HPv.out.duo.later h1
              have h3 := HPv.out.sl.lt
              have h4 := HPv.out.rs.lt
              exact ⟨h2.1, h2.2, by omega, by omega⟩
            have HFF := Lib.hid hffs
            have HROW := Lib.hid hrow
            have e3w := hk2.cell e3v (fun h => h)
            have HG9 := Lib.hid (And.intro e3w (show g9 < y2.heap.size ∧ g9 ≠ g ∧ g9 ≠ gx from ⟨Nat.lt_of_lt_of_le (World.block_lt_of_cell? v0 _ e3v) hk2.size, H9N.out⟩))
            clear hHeld hof hk2 hff hrow hffs e3v e3w HPv HRMv HNB HFL
            have hst := HCL.out.2
            have HSV := Lib.hid (two_save HEW.out.s HP2.out (HCL.out.1.2) (Nat.le_refl _) (by omega) hStP.out.len hn1 hst.1.half hst.1.room HROW.out hcf (by omega) (fun _ y hy => (HFF.out y hy).1))
            have HSS := Lib.hid (save_stands (b := FB) hst.1 HCL.out.1.1 hoff.out HCL.out.1.2 HBB.out (by have := hst.2; omega) hn1 hn12 hst.2)
            have HSB := Lib.hid (show s.half ≤ 1 ∧ s.many ≤ (n - 1) / 2 * 128 ∧ (s.seq = 0 → s.many = 0) ∧ s.seq ≤ 4294967295 from ⟨hst.1.half, hst.1.room, fun h => by rw [hst.1.zero h], hst.1.seq⟩)
            clear hst
            go_wp2_with fail
            refine HSV.out.mono ?_
            rintro e y3 ⟨R3, rfl, hP3, hk3, hR3⟩
            have hrow3 := HROW.out.keepN hk3 (fun _ y hy hh => hh.elim (wr_not (HFF.out y hy).1) (HFF.out y hy).2.2.1)
            have e33 := hk3.cell HG9.out.1 (fun hh => hh.elim (wr_not H9.out.1) HG9.out.2.2.1)
            have HQ := Lib.hid (two_refsave hP3 HCL.out.1.2 (Nat.le_refl _) (by omega) hStP.out.len hn1 HSB.out.1 HSB.out.2.1 HSB.out.2.2.1 HSB.out.2.2.2 hrow3 hcf (by omega) (fun _ y hy => (HFF.out y hy).2.1))
            have HR9 := Lib.hid (show R3 g9 = 0 ∧ g9 < y3.heap.size from ⟨by rw [hR3 g9 HG9.out.2.1]; exact H9.out.1, Nat.lt_of_lt_of_le HG9.out.2.1 hk3.size⟩)
            have HE33 := Lib.hid e33
            clear hP3 hk3 hR3 hrow3 e33 HSV
            go_wp2_with fail
            refine HQ.out.mono ?_
            rintro e y4 ⟨Q4, rfl, hP4, hk4, hQ4⟩
            have HE34 := Lib.hid (show y4.cell? ⟨g9, 3, none⟩ = some (.slice la ll lc) ∧ R3 g9 = 0 ∧ Q4 g9 = 0 from ⟨hk4.cell HE33.out (fun hh => hh.elim (wr_not H9.out.2) HG9.out.2.2.2), HR9.out.1, by rw [hQ4 g9 HR9.out.2]; exact H9.out.2⟩)
            have HP4 := Lib.hid hP4
            have HIS := Lib.hid (is_O (HEW.out.keep hP4.duo.mine.keeps) (d.save s FB).2.2 HSS.out.2)
            clear hP4 hk4 hQ4 HQ
            generalize (d.save s FB).2.2 = oo at *
            generalize errO p oo = vo at *
            go_wp2_with fail
            refine HIS.out.mono ?_
            rintro e y5 ⟨rfl, hk5⟩
            have HP5 := Lib.hid (HP4.out.nil hk5)
            have HE35 := Lib.hid (And.intro (hk5.cell HE34.out.1 (fun h => h)) HE34.out.2)
            clear hk5 HIS HP4
            go_wp2_with fail
            go_meet
            exact ⟨g, gx, R3, Q4, _, _, rfl, rfl, HP5, Lib.hid HSS.out.1, Lib.hid (fun _ => HE35.out)⟩
          · skip
            go_upto_region 20 with fail
            have hlen := hStP.out.len
            have hrm := refroom_walk hPA.out.duo.ref hPA.out.rs (by rw [hlen]; exact hn1) (by rw [hlen]; omega)
            rw [room_eq hlen] at hrm
            obtain ⟨RM, hRM⟩ : ∃ RM, RM = (n - 1) / 2 * 128 := ⟨_, rfl⟩
            rw [← hRM] at hrm
            have hRMb : RM ≤ 800 := by omega
            have hwr : IntKind.i64.wrap ((RM : Int) + 3) = (RM : Int) + 3 := by rw [IntKind.wrap_i64]; omega
            obtain ⟨kk, hkk⟩ : ∃ kk : Nat, B % ((RM : Int) + 3) = (kk : Int) := ⟨(B % ((RM : Int) + 3)).toNat, by have := Int.emod_nonneg B (b := (RM : Int) + 3) (by omega); omega⟩
            have hkb : kk ≤ 1000 := by have := Int.emod_lt_of_pos B (b := (RM : Int) + 3) (by omega); omega
            have hnb := fun w' => number_walk B ((RM : Int) + 3) w' wfB.1 wfB.2 (by omega) (by omega)
            rw [hkk] at hnb
            have hfl := fun w' => file_walk C kk w' (by omega)
            obtain ⟨FB, hFB⟩ : ∃ FB, FB = fileL C kk := ⟨_, rfl⟩
            have hbl : FB.length = kk := by rw [hFB]; exact fileL_len _ _
            have hbb : AreB FB := by rw [hFB]; exact fileL_bytes _ _
            rw [← hFB] at hfl
            have HRM := Lib.hid hrm
            have HNB := Lib.hid hnb
            have HFL := Lib.hid hfl
            have HBL := Lib.hid hbl
            have HBB := Lib.hid hbb
            clear hrm hnb hfl hFB hbl hbb hkk hlen
            refine wp_region_held_drew (S := fun w' => w'.cell? ⟨g9, 1, none⟩ = some (.int .i64 B) ∧ w'.cell? ⟨g9, 2, none⟩ = some (.int .i64 C)) (by kernel_rfl) ⟨e1, e2⟩ (fun hHeld => ?_)
            have hkd : Keeps Nil wA wA.drew := (Keeps.refl Nil wA).drew
            have HRMv := Lib.hid (show Calls Tryd.prog 44 #[.pointer (some ⟨gx, 0, none⟩)] wA.drew (fun e w' => e = .returned (.int .i64 RM) ∧ wA.drew = w') from by
              have hlen := hStP.out.len
              have h := refroom_walk (hPA.out.nil hkd).duo.ref (hPA.out.nil hkd).rs (by rw [hlen]; exact hn1) (by rw [hlen]; omega)
              rw [room_eq hlen, ← hRM] at h
              exact h)
            have HPv := Lib.hid (hPA.out.nil hkd)
            have e3v := hkd.cell e3 (fun h => h)
            clear hkd e0 e1 e2 e3 HRM hRM
            generalize wA.drew = v0 at *
            refine takeL (i := 0) (v := _) rfl (by kernel_rfl) (by kernel_rfl) (by kernel_rfl) (fun _ _ _ h => h) (Or.inl ⟨by rfl, by intro w hSw; (try dsimp only at hSw); go_simp; try with_reducible rfl⟩) (by assumption) ?_
            try simp only [Act.put, List.setIfInBounds_toArray, List.set_cons_zero, List.set_cons_succ]
            refine takeL (i := 1) (v := _) rfl (by kernel_rfl) (by kernel_rfl) (by kernel_rfl) (fun _ _ _ h => h) (Or.inl ⟨by rfl, by intro w hSw; (try dsimp only at hSw); go_simp; try with_reducible rfl⟩) (by assumption) ?_
            try simp only [Act.put, List.setIfInBounds_toArray, List.set_cons_zero, List.set_cons_succ]
            refine takeL (i := 2) (v := _) rfl (by kernel_rfl) (by kernel_rfl) (by kernel_rfl) (fun _ _ _ h => h) (Or.inl ⟨by rfl, by intro w hSw; (try dsimp only at hSw); go_simp; try with_reducible rfl⟩) (by assumption) ?_
            try simp only [Act.put, List.setIfInBounds_toArray, List.set_cons_zero, List.set_cons_succ]
            refine takeL (i := 3) (v := _) rfl (by kernel_rfl) (by kernel_rfl) (by kernel_rfl) (fun _ _ _ h => h) (Or.inl ⟨by rfl, by intro w hSw; (try dsimp only at hSw); go_simp; try with_reducible rfl⟩) (by assumption) ?_
            try simp only [Act.put, List.setIfInBounds_toArray, List.set_cons_zero, List.set_cons_succ]
            refine takeL (i := 4) (v := _) rfl (by kernel_rfl) (by kernel_rfl) (by kernel_rfl) (fun _ _ _ h => h) (Or.inl ⟨by rfl, by intro w hSw; (try dsimp only at hSw); go_simp; try with_reducible rfl⟩) (by assumption) ?_
            try simp only [Act.put, List.setIfInBounds_toArray, List.set_cons_zero, List.set_cons_succ]
            refine onlyL (i := 5) rfl (by kernel_rfl) (fun K hK => ?_)
            go_simp
            refine HRMv.out.mono ?_
            rintro e y1 ⟨rfl, rfl⟩
            refine (fun hHeld => hK _ _ hHeld ?_) (hHeld)
            clear hK
            try simp only [Act.put, List.setIfInBounds_toArray, List.set_cons_zero, List.set_cons_succ]
            refine takeL (i := 6) (v := _) rfl (by kernel_rfl) (by kernel_rfl) (by kernel_rfl) (fun _ _ _ h => h) (Or.inl ⟨by rfl, by intro w hSw; (try dsimp only at hSw); go_simp; try with_reducible rfl⟩) (by assumption) ?_
            try simp only [Act.put, List.setIfInBounds_toArray, List.set_cons_zero, List.set_cons_succ]
            refine onlyL (i := 7) rfl (by kernel_rfl) (fun K hK => ?_)
            go_simp
            refine (HNB.out v0).mono ?_
            rintro e y1 ⟨rfl, rfl⟩
            refine (fun hHeld => hK _ _ hHeld ?_) (hHeld)
            clear hK
            try simp only [Act.put, List.setIfInBounds_toArray, List.set_cons_zero, List.set_cons_succ]
            refine onlyL (i := 8) rfl (by kernel_rfl) (fun K hK => ?_)
            go_simp
            refine (HFL.out v0).mono ?_
            rintro e y2 ⟨af, cf, rfl, hof, hk2, hff⟩
            rw [HBL.out] at hof ⊢
            refine (fun hHeld => hK _ _ hHeld ?_) (⟨hk2.cell hHeld.1 (fun h => h), hk2.cell hHeld.2 (fun h => h)⟩)
            clear hK
            try simp only [Act.put, List.setIfInBounds_toArray, List.set_cons_zero, List.set_cons_succ]
            refine takeL (i := 9) (v := _) rfl (by kernel_rfl) (by kernel_rfl) (by kernel_rfl) (fun _ _ _ h => h) (Or.inl ⟨by rfl, by intro w hSw; (try dsimp only at hSw); go_simp; try with_reducible rfl⟩) (by assumption) ?_
            try simp only [Act.put, List.setIfInBounds_toArray, List.set_cons_zero, List.set_cons_succ]
            refine wpAnyH_done (by kernel_rfl) ?_ _
            have HP2 := Lib.hid (HPv.out.nil hk2)
            have hcf := hof.2.1
            have hcx := hof.2.2.1
            unfold maxLen at hcx
            have hrow := hof.row (areB_wf HBB.out)
            have hffs : ∀ y, blkOf af y → R y = 0 ∧ Q y = 0 ∧ y ≠ g ∧ y ≠ gx := fun y hy => by
              have h1 := hff y hy
              have h2 := HPv.out.duo.later h1
              have h3 := HPv.out.sl.lt
              have h4 := HPv.out.rs.lt
              exact ⟨h2.1, h2.2, by omega, by omega⟩
            have HFF := Lib.hid hffs
            have HROW := Lib.hid hrow
            have e3w := hk2.cell e3v (fun h => h)
            have HG9 := Lib.hid (And.intro e3w (show g9 < y2.heap.size ∧ g9 ≠ g ∧ g9 ≠ gx from ⟨Nat.lt_of_lt_of_le (World.block_lt_of_cell? v0 _ e3v) hk2.size, H9N.out⟩))
            clear hHeld hof hk2 hff hrow hffs e3v e3w HPv HRMv HNB HFL
            have hst := HCL.out.2
            have HSV := Lib.hid (two_save HEW.out.s HP2.out (HCL.out.1.2) (Nat.le_refl _) (by omega) hStP.out.len hn1 hst.1.half hst.1.room HROW.out hcf (by omega) (fun _ y hy => (HFF.out y hy).1))
            have HSS := Lib.hid (save_stands (b := FB) hst.1 HCL.out.1.1 hoff.out HCL.out.1.2 HBB.out (by have := hst.2; omega) hn1 hn12 hst.2)
            have HSB := Lib.hid (show s.half ≤ 1 ∧ s.many ≤ (n - 1) / 2 * 128 ∧ (s.seq = 0 → s.many = 0) ∧ s.seq ≤ 4294967295 from ⟨hst.1.half, hst.1.room, fun h => by rw [hst.1.zero h], hst.1.seq⟩)
            clear hst
            go_wp2_with fail
            refine HSV.out.mono ?_
            rintro e y3 ⟨R3, rfl, hP3, hk3, hR3⟩
            have hrow3 := HROW.out.keepN hk3 (fun _ y hy hh => hh.elim (wr_not (HFF.out y hy).1) (HFF.out y hy).2.2.1)
            have e33 := hk3.cell HG9.out.1 (fun hh => hh.elim (wr_not H9.out.1) HG9.out.2.2.1)
            have HQ := Lib.hid (two_refsave hP3 HCL.out.1.2 (Nat.le_refl _) (by omega) hStP.out.len hn1 HSB.out.1 HSB.out.2.1 HSB.out.2.2.1 HSB.out.2.2.2 hrow3 hcf (by omega) (fun _ y hy => (HFF.out y hy).2.1))
            have HR9 := Lib.hid (show R3 g9 = 0 ∧ g9 < y3.heap.size from ⟨by rw [hR3 g9 HG9.out.2.1]; exact H9.out.1, Nat.lt_of_lt_of_le HG9.out.2.1 hk3.size⟩)
            have HE33 := Lib.hid e33
            clear hP3 hk3 hR3 hrow3 e33 HSV
            go_wp2_with fail
            refine HQ.out.mono ?_
            rintro e y4 ⟨Q4, rfl, hP4, hk4, hQ4⟩
            have HE34 := Lib.hid (show y4.cell? ⟨g9, 3, none⟩ = some (.slice la ll lc) ∧ R3 g9 = 0 ∧ Q4 g9 = 0 from ⟨hk4.cell HE33.out (fun hh => hh.elim (wr_not H9.out.2) HG9.out.2.2.2), HR9.out.1, by rw [hQ4 g9 HR9.out.2]; exact H9.out.2⟩)
            have HP4 := Lib.hid hP4
            have HIS := Lib.hid (is_O (HEW.out.keep hP4.duo.mine.keeps) (d.save s FB).2.2 HSS.out.2)
            clear hP4 hk4 hQ4 HQ
            generalize (d.save s FB).2.2 = oo at *
            generalize errO p oo = vo at *
            go_wp2_with fail
            refine HIS.out.mono ?_
            rintro e y5 ⟨rfl, hk5⟩
            have HP5 := Lib.hid (HP4.out.nil hk5)
            have HE35 := Lib.hid (And.intro (hk5.cell HE34.out.1 (fun h => h)) HE34.out.2)
            clear hk5 HIS HP4
            go_wp2_with fail
            go_meet
            exact ⟨g, gx, R3, Q4, _, _, rfl, rfl, HP5, Lib.hid HSS.out.1, Lib.hid (fun _ => HE35.out)⟩
          · skip
            go_upto_region 20 with fail
            have hlen := hStP.out.len
            have hrm := refroom_walk hPA.out.duo.ref hPA.out.rs (by rw [hlen]; exact hn1) (by rw [hlen]; omega)
            rw [room_eq hlen] at hrm
            obtain ⟨RM, hRM⟩ : ∃ RM, RM = (n - 1) / 2 * 128 := ⟨_, rfl⟩
            rw [← hRM] at hrm
            have hRMb : RM ≤ 800 := by omega
            have hwr : IntKind.i64.wrap ((RM : Int) + 3) = (RM : Int) + 3 := by rw [IntKind.wrap_i64]; omega
            obtain ⟨kk, hkk⟩ : ∃ kk : Nat, B % ((RM : Int) + 3) = (kk : Int) := ⟨(B % ((RM : Int) + 3)).toNat, by have := Int.emod_nonneg B (b := (RM : Int) + 3) (by omega); omega⟩
            have hkb : kk ≤ 1000 := by have := Int.emod_lt_of_pos B (b := (RM : Int) + 3) (by omega); omega
            have hnb := fun w' => number_walk B ((RM : Int) + 3) w' wfB.1 wfB.2 (by omega) (by omega)
            rw [hkk] at hnb
            have hfl := fun w' => file_walk C kk w' (by omega)
            obtain ⟨FB, hFB⟩ : ∃ FB, FB = fileL C kk := ⟨_, rfl⟩
            have hbl : FB.length = kk := by rw [hFB]; exact fileL_len _ _
            have hbb : AreB FB := by rw [hFB]; exact fileL_bytes _ _
            rw [← hFB] at hfl
            have HRM := Lib.hid hrm
            have HNB := Lib.hid hnb
            have HFL := Lib.hid hfl
            have HBL := Lib.hid hbl
            have HBB := Lib.hid hbb
            clear hrm hnb hfl hFB hbl hbb hkk hlen
            refine wp_region_held_drew (S := fun w' => w'.cell? ⟨g9, 1, none⟩ = some (.int .i64 B) ∧ w'.cell? ⟨g9, 2, none⟩ = some (.int .i64 C)) (by kernel_rfl) ⟨e1, e2⟩ (fun hHeld => ?_)
            have hkd : Keeps Nil wA wA.drew := (Keeps.refl Nil wA).drew
            have HRMv := Lib.hid (show Calls Tryd.prog 44 #[.pointer (some ⟨gx, 0, none⟩)] wA.drew (fun e w' => e = .returned (.int .i64 RM) ∧ wA.drew = w') from by
              have hlen := hStP.out.len
              have h := refroom_walk (hPA.out.nil hkd).duo.ref (hPA.out.nil hkd).rs (by rw [hlen]; exact hn1) (by rw [hlen]; omega)
              rw [room_eq hlen, ← hRM] at h
              exact h)
            have HPv := Lib.hid (hPA.out.nil hkd)
            have e3v := hkd.cell e3 (fun h => h)
            clear hkd e0 e1 e2 e3 HRM hRM
            generalize wA.drew = v0 at *
            refine takeL (i := 0) (v := _) rfl (by kernel_rfl) (by kernel_rfl) (by kernel_rfl) (fun _ _ _ h => h) (Or.inl ⟨by rfl, by intro w hSw; (try dsimp only at hSw); go_simp; try with_reducible rfl⟩) (by assumption) ?_
            try simp only [Act.put, List.setIfInBounds_toArray, List.set_cons_zero, List.set_cons_succ]
            refine takeL (i := 1) (v := _) rfl (by kernel_rfl) (by kernel_rfl) (by kernel_rfl) (fun _ _ _ h => h) (Or.inl ⟨by rfl, by intro w hSw; (try dsimp only at hSw); go_simp; try with_reducible rfl⟩) (by assumption) ?_
            try simp only [Act.put, List.setIfInBounds_toArray, List.set_cons_zero, List.set_cons_succ]
            refine takeL (i := 2) (v := _) rfl (by kernel_rfl) (by kernel_rfl) (by kernel_rfl) (fun _ _ _ h => h) (Or.inl ⟨by rfl, by intro w hSw; (try dsimp only at hSw); go_simp; try with_reducible rfl⟩) (by assumption) ?_
            try simp only [Act.put, List.setIfInBounds_toArray, List.set_cons_zero, List.set_cons_succ]
            refine takeL (i := 3) (v := _) rfl (by kernel_rfl) (by kernel_rfl) (by kernel_rfl) (fun _ _ _ h => h) (Or.inl ⟨by rfl, by intro w hSw; (try dsimp only at hSw); go_simp; try with_reducible rfl⟩) (by assumption) ?_
            try simp only [Act.put, List.setIfInBounds_toArray, List.set_cons_zero, List.set_cons_succ]
            refine takeL (i := 4) (v := _) rfl (by kernel_rfl) (by kernel_rfl) (by kernel_rfl) (fun _ _ _ h => h) (Or.inl ⟨by rfl, by intro w hSw; (try dsimp only at hSw); go_simp; try with_reducible rfl⟩) (by assumption) ?_
            try simp only [Act.put, List.setIfInBounds_toArray, List.set_cons_zero, List.set_cons_succ]
            refine onlyL (i := 5) rfl (by kernel_rfl) (fun K hK => ?_)
            go_simp
            refine HRMv.out.mono ?_
            rintro e y1 ⟨rfl, rfl⟩
            refine (fun hHeld => hK _ _ hHeld ?_) (hHeld)
            clear hK
            try simp only [Act.put, List.setIfInBounds_toArray, List.set_cons_zero, List.set_cons_succ]
            refine takeL (i := 6) (v := _) rfl (by kernel_rfl) (by kernel_rfl) (by kernel_rfl) (fun _ _ _ h => h) (Or.inl ⟨by rfl, by intro w hSw; (try dsimp only at hSw); go_simp; try with_reducible rfl⟩) (by assumption) ?_
            try simp only [Act.put, List.setIfInBounds_toArray, List.set_cons_zero, List.set_cons_succ]
            refine onlyL (i := 7) rfl (by kernel_rfl) (fun K hK => ?_)
            go_simp
            refine (HNB.out v0).mono ?_
            rintro e y1 ⟨rfl, rfl⟩
            refine (fun hHeld => hK _ _ hHeld ?_) (hHeld)
            clear hK
            try simp only [Act.put, List.setIfInBounds_toArray, List.set_cons_zero, List.set_cons_succ]
            refine onlyL (i := 8) rfl (by kernel_rfl) (fun K hK => ?_)
            go_simp
            refine (HFL.out v0).mono ?_
            rintro e y2 ⟨af, cf, rfl, hof, hk2, hff⟩
            rw [HBL.out] at hof ⊢
            refine (fun hHeld => hK _ _ hHeld ?_) (⟨hk2.cell hHeld.1 (fun h => h), hk2.cell hHeld.2 (fun h => h)⟩)
            clear hK
            try simp only [Act.put, List.setIfInBounds_toArray, List.set_cons_zero, List.set_cons_succ]
            refine takeL (i := 9) (v := _) rfl (by kernel_rfl) (by kernel_rfl) (by kernel_rfl) (fun _ _ _ h => h) (Or.inl ⟨by rfl, by intro w hSw; (try dsimp only at hSw); go_simp; try with_reducible rfl⟩) (by assumption) ?_
            try simp only [Act.put, List.setIfInBounds_toArray, List.set_cons_zero, List.set_cons_succ]
            refine wpAnyH_done (by kernel_rfl) ?_ _
            have HP2 := Lib.hid (HPv.out.nil hk2)
            have hcf := hof.2.1
            have hcx := hof.2.2.1
            unfold maxLen at hcx
            have hrow := hof.row (areB_wf HBB.out)
            have hffs : ∀ y, blkOf af y → R y = 0 ∧ Q y = 0 ∧ y ≠ g ∧ y ≠ gx := fun y hy => by
              have h1 := hff y hy
              have h2 := HPv.out.duo.later h1
              have h3 := HPv.out.sl.lt
              have h4 := HPv.out.rs.lt
              exact ⟨h2.1, h2.2, by omega, by omega⟩
            have HFF := Lib.hid hffs
            have HROW := Lib.hid hrow
            have e3w := hk2.cell e3v (fun h => h)
            have HG9 := Lib.hid (And.intro e3w (show g9 < y2.heap.size ∧ g9 ≠ g ∧ g9 ≠ gx from ⟨Nat.lt_of_lt_of_le (World.block_lt_of_cell? v0 _ e3v) hk2.size, H9N.out⟩))
            clear hHeld hof hk2 hff hrow hffs e3v e3w HPv HRMv HNB HFL
            have hst := HCL.out.2
            have HSV := Lib.hid (two_save HEW.out.s HP2.out (HCL.out.1.2) (Nat.le_refl _) (by omega) hStP.out.len hn1 hst.1.half hst.1.room HROW.out hcf (by omega) (fun _ y hy => (HFF.out y hy).1))
            have HSS := Lib.hid (save_stands (b := FB) hst.1 HCL.out.1.1 hoff.out HCL.out.1.2 HBB.out (by have := hst.2; omega) hn1 hn12 hst.2)
            have HSB := Lib.hid (show s.half ≤ 1 ∧ s.many ≤ (n - 1) / 2 * 128 ∧ (s.seq = 0 → s.many = 0) ∧ s.seq ≤ 4294967295 from ⟨hst.1.half, hst.1.room, fun h => by rw [hst.1.zero h], hst.1.seq⟩)
            clear hst
            go_wp2_with fail
            refine HSV.out.mono ?_
            rintro e y3 ⟨R3, rfl, hP3, hk3, hR3⟩
            have hrow3 := HROW.out.keepN hk3 (fun _ y hy hh => hh.elim (wr_not (HFF.out y hy).1) (HFF.out y hy).2.2.1)
            have e33 := hk3.cell HG9.out.1 (fun hh => hh.elim (wr_not H9.out.1) HG9.out.2.2.1)
            have HQ := Lib.hid (two_refsave hP3 HCL.out.1.2 (Nat.le_refl _) (by omega) hStP.out.len hn1 HSB.out.1 HSB.out.2.1 HSB.out.2.2.1 HSB.out.2.2.2 hrow3 hcf (by omega) (fun _ y hy => (HFF.out y hy).2.1))
            have HR9 := Lib.hid (show R3 g9 = 0 ∧ g9 < y3.heap.size from ⟨by rw [hR3 g9 HG9.out.2.1]; exact H9.out.1, Nat.lt_of_lt_of_le HG9.out.2.1 hk3.size⟩)
            have HE33 := Lib.hid e33
            clear hP3 hk3 hR3 hrow3 e33 HSV
            go_wp2_with fail
            refine HQ.out.mono ?_
            rintro e y4 ⟨Q4, rfl, hP4, hk4, hQ4⟩
            have HE34 := Lib.hid (show y4.cell? ⟨g9, 3, none⟩ = some (.slice la ll lc) ∧ R3 g9 = 0 ∧ Q4 g9 = 0 from ⟨hk4.cell HE33.out (fun hh => hh.elim (wr_not H9.out.2) HG9.out.2.2.2), HR9.out.1, by rw [hQ4 g9 HR9.out.2]; exact H9.out.2⟩)
            have HP4 := Lib.hid hP4
            have HIS := Lib.hid (is_O (HEW.out.keep hP4.duo.mine.keeps) (d.save s FB).2.2 HSS.out.2)
            clear hP4 hk4 hQ4 HQ
            generalize (d.save s FB).2.2 = oo at *
            generalize errO p oo = vo at *
            go_wp2_with fail
            refine HIS.out.mono ?_
            rintro e y5 ⟨rfl, hk5⟩
            have HP5 := Lib.hid (HP4.out.nil hk5)
            have HE35 := Lib.hid (And.intro (hk5.cell HE34.out.1 (fun h => h)) HE34.out.2)
            clear hk5 HIS HP4
            go_wp2_with fail
            go_meet
            exact ⟨g, gx, R3, Q4, _, _, rfl, rfl, HP5, Lib.hid HSS.out.1, Lib.hid (fun _ => HE35.out)⟩
          · skip
            go_upto_region 20 with fail
            have hlen := hStP.out.len
            have hrm := refroom_walk hPA.out.duo.ref hPA.out.rs (by rw [hlen]; exact hn1) (by rw [hlen]; omega)
            rw [room_eq hlen] at hrm
            obtain ⟨RM, hRM⟩ : ∃ RM, RM = (n - 1) / 2 * 128 := ⟨_, rfl⟩
            rw [← hRM] at hrm
            have hRMb : RM ≤ 800 := by omega
            have hwr : IntKind.i64.wrap ((RM : Int) + 3) = (RM : Int) + 3 := by rw [IntKind.wrap_i64]; omega
            obtain ⟨kk, hkk⟩ : ∃ kk : Nat, B % ((RM : Int) + 3) = (kk : Int) := ⟨(B % ((RM : Int) + 3)).toNat, by have := Int.emod_nonneg B (b := (RM : Int) + 3) (by omega); omega⟩
            have hkb : kk ≤ 1000 := by have := Int.emod_lt_of_pos B (b := (RM : Int) + 3) (by omega); omega
            have hnb := fun w' => number_walk B ((RM : Int) + 3) w' wfB.1 wfB.2 (by omega) (by omega)
            rw [hkk] at hnb
            have hfl := fun w' => file_walk C kk w' (by omega)
            obtain ⟨FB, hFB⟩ : ∃ FB, FB = fileL C kk := ⟨_, rfl⟩
            have hbl : FB.length = kk := by rw [hFB]; exact fileL_len _ _
            have hbb : AreB FB := by rw [hFB]; exact fileL_bytes _ _
            rw [← hFB] at hfl
            have HRM := Lib.hid hrm
            have HNB := Lib.hid hnb
            have HFL := Lib.hid hfl
            have HBL := Lib.hid hbl
            have HBB := Lib.hid hbb
            clear hrm hnb hfl hFB hbl hbb hkk hlen
            refine wp_region_held_drew (S := fun w' => w'.cell? ⟨g9, 1, none⟩ = some (.int .i64 B) ∧ w'.cell? ⟨g9, 2, none⟩ = some (.int .i64 C)) (by kernel_rfl) ⟨e1, e2⟩ (fun hHeld => ?_)
            have hkd : Keeps Nil wA wA.drew := (Keeps.refl Nil wA).drew
            have HRMv := Lib.hid (show Calls Tryd.prog 44 #[.pointer (some ⟨gx, 0, none⟩)] wA.drew (fun e w' => e = .returned (.int .i64 RM) ∧ wA.drew = w') from by
              have hlen := hStP.out.len
              have h := refroom_walk (hPA.out.nil hkd).duo.ref (hPA.out.nil hkd).rs (by rw [hlen]; exact hn1) (by rw [hlen]; omega)
              rw [room_eq hlen, ← hRM] at h
              exact h)
            have HPv := Lib.hid (hPA.out.nil hkd)
            have e3v := hkd.cell e3 (fun h => h)
            clear hkd e0 e1 e2 e3 HRM hRM
            generalize wA.drew = v0 at *
            refine takeL (i := 0) (v := _) rfl (by kernel_rfl) (by kernel_rfl) (by kernel_rfl) (fun _ _ _ h => h) (Or.inl ⟨by rfl, by intro w hSw; (try dsimp only at hSw); go_simp; try with_reducible rfl⟩) (by assumption) ?_
            try simp only [Act.put, List.setIfInBounds_toArray, List.set_cons_zero, List.set_cons_succ]
            refine takeL (i := 1) (v := _) rfl (by kernel_rfl) (by kernel_rfl) (by kernel_rfl) (fun _ _ _ h => h) (Or.inl ⟨by rfl, by intro w hSw; (try dsimp only at hSw); go_simp; try with_reducible rfl⟩) (by assumption) ?_
            try simp only [Act.put, List.setIfInBounds_toArray, List.set_cons_zero, List.set_cons_succ]
            refine takeL (i := 2) (v := _) rfl (by kernel_rfl) (by kernel_rfl) (by kernel_rfl) (fun _ _ _ h => h) (Or.inl ⟨by rfl, by intro w hSw; (try dsimp only at hSw); go_simp; try with_reducible rfl⟩) (by assumption) ?_
            try simp only [Act.put, List.setIfInBounds_toArray, List.set_cons_zero, List.set_cons_succ]
            refine takeL (i := 3) (v := _) rfl (by kernel_rfl) (by kernel_rfl) (by kernel_rfl) (fun _ _ _ h => h) (Or.inl ⟨by rfl, by intro w hSw; (try dsimp only at hSw); go_simp; try with_reducible rfl⟩) (by assumption) ?_
            try simp only [Act.put, List.setIfInBounds_toArray, List.set_cons_zero, List.set_cons_succ]
            refine takeL (i := 4) (v := _) rfl (by kernel_rfl) (by kernel_rfl) (by kernel_rfl) (fun _ _ _ h => h) (Or.inl ⟨by rfl, by intro w hSw; (try dsimp only at hSw); go_simp; try with_reducible rfl⟩) (by assumption) ?_
            try simp only [Act.put, List.setIfInBounds_toArray, List.set_cons_zero, List.set_cons_succ]
            refine onlyL (i := 5) rfl (by kernel_rfl) (fun K hK => ?_)
            go_simp
            refine HRMv.out.mono ?_
            rintro e y1 ⟨rfl, rfl⟩
            refine (fun hHeld => hK _ _ hHeld ?_) (hHeld)
            clear hK
            try simp only [Act.put, List.setIfInBounds_toArray, List.set_cons_zero, List.set_cons_succ]
            refine takeL (i := 6) (v := _) rfl (by kernel_rfl) (by kernel_rfl) (by kernel_rfl) (fun _ _ _ h => h) (Or.inl ⟨by rfl, by intro w hSw; (try dsimp only at hSw); go_simp; try with_reducible rfl⟩) (by assumption) ?_
            try simp only [Act.put, List.setIfInBounds_toArray, List.set_cons_zero, List.set_cons_succ]
            refine onlyL (i := 7) rfl (by kernel_rfl) (fun K hK => ?_)
            go_simp
            refine (HNB.out v0).mono ?_
            rintro e y1 ⟨rfl, rfl⟩
            refine (fun hHeld => hK _ _ hHeld ?_) (hHeld)
            clear hK
            try simp only [Act.put, List.setIfInBounds_toArray, List.set_cons_zero, List.set_cons_succ]
            refine onlyL (i := 8) rfl (by kernel_rfl) (fun K hK => ?_)
            go_simp
            refine (HFL.out v0).mono ?_
            rintro e y2 ⟨af, cf, rfl, hof, hk2, hff⟩
            rw [HBL.out] at hof ⊢
            refine (fun hHeld => hK _ _ hHeld ?_) (⟨hk2.cell hHeld.1 (fun h => h), hk2.cell hHeld.2 (fun h => h)⟩)
            clear hK
            try simp only [Act.put, List.setIfInBounds_toArray, List.set_cons_zero, List.set_cons_succ]
            refine takeL (i := 9) (v := _) rfl (by kernel_rfl) (by kernel_rfl) (by kernel_rfl) (fun _ _ _ h => h) (Or.inl ⟨by rfl, by intro w hSw; (try dsimp only at hSw); go_simp; try with_reducible rfl⟩) (by assumption) ?_
            try simp only [Act.put, List.setIfInBounds_toArray, List.set_cons_zero, List.set_cons_succ]
            refine wpAnyH_done (by kernel_rfl) ?_ _
            have HP2 := Lib.hid (HPv.out.nil hk2)
            have hcf := hof.2.1
            have hcx := hof.2.2.1
            unfold maxLen at hcx
            have hrow := hof.row (areB_wf HBB.out)
            have hffs : ∀ y, blkOf af y → R y = 0 ∧ Q y = 0 ∧ y ≠ g ∧ y ≠ gx := fun y hy => by
              have h1 := hff y hy
              have h2 := HPv.out.duo.later h1
              have h3 := HPv.out.sl.lt
              have h4 := HPv.out.rs.lt
              exact ⟨h2.1, h2.2, by omega, by omega⟩
            have HFF := Lib.hid hffs
            have HROW := Lib.hid hrow
            have e3w := hk2.cell e3v (fun h => h)
            have HG9 := Lib.hid (And.intro e3w (show g9 < y2.heap.size ∧ g9 ≠ g ∧ g9 ≠ gx from ⟨Nat.lt_of_lt_of_le (World.block_lt_of_cell? v0 _ e3v) hk2.size, H9N.out⟩))
            clear hHeld hof hk2 hff hrow hffs e3v e3w HPv HRMv HNB HFL
            have hst := HCL.out.2
            have HSV := Lib.hid (two_save HEW.out.s HP2.out (HCL.out.1.2) (Nat.le_refl _) (by omega) hStP.out.len hn1 hst.1.half hst.1.room HROW.out hcf (by omega) (fun _ y hy => (HFF.out y hy).1))
            have HSS := Lib.hid (save_stands (b := FB) hst.1 HCL.out.1.1 hoff.out HCL.out.1.2 HBB.out (by have := hst.2; omega) hn1 hn12 hst.2)
            have HSB := Lib.hid (show s.half ≤ 1 ∧ s.many ≤ (n - 1) / 2 * 128 ∧ (s.seq = 0 → s.many = 0) ∧ s.seq ≤ 4294967295 from ⟨hst.1.half, hst.1.room, fun h => by rw [hst.1.zero h], hst.1.seq⟩)
            clear hst
            go_wp2_with fail
            refine HSV.out.mono ?_
            rintro e y3 ⟨R3, rfl, hP3, hk3, hR3⟩
            have hrow3 := HROW.out.keepN hk3 (fun _ y hy hh => hh.elim (wr_not (HFF.out y hy).1) (HFF.out y hy).2.2.1)
            have e33 := hk3.cell HG9.out.1 (fun hh => hh.elim (wr_not H9.out.1) HG9.out.2.2.1)
            have HQ := Lib.hid (two_refsave hP3 HCL.out.1.2 (Nat.le_refl _) (by omega) hStP.out.len hn1 HSB.out.1 HSB.out.2.1 HSB.out.2.2.1 HSB.out.2.2.2 hrow3 hcf (by omega) (fun _ y hy => (HFF.out y hy).2.1))
            have HR9 := Lib.hid (show R3 g9 = 0 ∧ g9 < y3.heap.size from ⟨by rw [hR3 g9 HG9.out.2.1]; exact H9.out.1, Nat.lt_of_lt_of_le HG9.out.2.1 hk3.size⟩)
            have HE33 := Lib.hid e33
            clear hP3 hk3 hR3 hrow3 e33 HSV
            go_wp2_with fail
            refine HQ.out.mono ?_
            rintro e y4 ⟨Q4, rfl, hP4, hk4, hQ4⟩
            have HE34 := Lib.hid (show y4.cell? ⟨g9, 3, none⟩ = some (.slice la ll lc) ∧ R3 g9 = 0 ∧ Q4 g9 = 0 from ⟨hk4.cell HE33.out (fun hh => hh.elim (wr_not H9.out.2) HG9.out.2.2.2), HR9.out.1, by rw [hQ4 g9 HR9.out.2]; exact H9.out.2⟩)
            have HP4 := Lib.hid hP4
            have HIS := Lib.hid (is_O (HEW.out.keep hP4.duo.mine.keeps) (d.save s FB).2.2 HSS.out.2)
            clear hP4 hk4 hQ4 HQ
            generalize (d.save s FB).2.2 = oo at *
            generalize errO p oo = vo at *
            go_wp2_with fail
            refine HIS.out.mono ?_
            rintro e y5 ⟨rfl, hk5⟩
            have HP5 := Lib.hid (HP4.out.nil hk5)
            have HE35 := Lib.hid (And.intro (hk5.cell HE34.out.1 (fun h => h)) HE34.out.2)
            clear hk5 HIS HP4
            go_wp2_with fail
            go_meet
            exact ⟨g, gx, R3, Q4, _, _, rfl, rfl, HP5, Lib.hid HSS.out.1, Lib.hid (fun _ => HE35.out)⟩
          · skip
            have HSt := Lib.hid (show St w1 wA pd g R n s c d from ⟨hPA.out.duo.mine, hPA.out.sl, hPA.out.rg, hPA.out.gw, HCL.out.1.1, HCL.out.2.1, hoff.out, HCL.out.1.2, hn1, by omega⟩)
            have HLD := Lib.hid (load_st HEW.out.e2 HSt.out)
            clear e0 e1 e2 e3
            go_wp2_with fail
            refine HLD.out.mono ?_
            rintro e y5 ⟨al, cl, rfl, hol, hk5, _⟩
            have HP5 := Lib.hid (hPA.out.nil hk5)
            have hmc : c.length = s.many := HCL.out.2.1.many.symm
            rw [hmc] at hol ⊢
            have HRL := Lib.hid (hol.row (areB_wf HCL.out.2.1.bytes))
            have hll := refload_walk HP5.out.duo.ref HP5.out.rs HCL.out.1.2 (by omega) hoff.out (by rw [hStP.out.len]; exact hn1) (by rw [first_eq hStP.out.len, hStP.out.len]; exact HCL.out.2.1.fits hn1) (by have := HCL.out.2.1.room; omega) HCL.out.2.1.half
            rw [load_v HCL.out.1.1.near HCL.out.2.1 hn1] at hll
            have HLL := Lib.hid hll
            clear hmc hol hk5 hll HLD HSt
            go_wp2_with fail
            refine HLL.out.mono ?_
            rintro e y6 ⟨ax, cx, rfl, hrx, hk6, _⟩
            have HP6 := Lib.hid (HP5.out.nil hk6)
            have HRA := Lib.hid (And.intro (HRL.out.keep hk6) hrx)
            have HI6 := Lib.hid (HIN.out y6 HP6.out.duo.mine.keeps)
            clear hk6 hrx HLL HP5 HRL
            go_wp2_with fail
            refine HI6.out.mono ?_
            rintro e y7 ⟨rfl, hk7⟩
            have hsb := sameBytes_walk (ca := cl) (cb := cx) (HRA.out.1.keep hk7) (HRA.out.2.keep hk7)
            rw [sameL_refl] at hsb
            have HSB := Lib.hid hsb
            have HP7 := Lib.hid (HP6.out.nil hk7)
            clear hk7 hsb HI6 HRA HP6
            go_wp2_with fail
            refine HSB.out.mono ?_
            rintro e y8 ⟨rfl, hd8⟩
            have HP8 := Lib.hid (HP7.out.nil (hd8.keeps _))
            have HSn := Lib.hid (Stands.clean (i := i + 1) HCL.out.1.1 HCL.out.2.1 (by have := HCL.out.2.2; omega) HCL.out.1.2)
            clear hd8 HSB HP7
            go_wp2_with fail
            go_meet
            exact ⟨g, gx, R, Q, s, d, rfl, rfl, HP8, HSn, Lib.hid (fun h => by rw [hoff.out] at h; cases h)⟩
          · skip
            go_wp2_with fail
            refine (duo_fuse hPA.out.duo B).mono ?_
            rintro e y5 ⟨rfl, hD5, hk5⟩
            have HP5 := Lib.hid (hPA.out.stepA hD5 (grew_of hk5))
            replace e1 := hk5.cell e1 (wr_not H9.out.1)
            clear hD5 hk5 e0 e2 e3
            go_wp2_with fail
            refine (duo_reffuse HP5.out.duo B).mono ?_
            rintro e y6 ⟨rfl, hD6, hk6⟩
            have HP6 := Lib.hid (HP5.out.stepB hD6 (grew_of hk6))
            have HSn := Lib.hid (fuse_stands (i := i) HCL.out.2.1 HCL.out.1.1 HCL.out.1.2 HCL.out.2.2 wfB.2)
            clear hD6 hk6 HP5
            go_wp2_with fail
            go_meet
            exact ⟨g, gx, R, Q, s, d.fuse B, rfl, rfl, HP6, HSn, Lib.hid (fun h => by rw [show (d.fuse B).off = d.off from rfl, hoff.out] at h; cases h)⟩
          · skip
            by_cases hll : ll ≤ 30
            · have hlli : ¬ ((30 : Int) < ll) := by omega
              have hStQ : Hid (Stands n s d (i + 1)) := Lib.hid (Stands.clean HCL.out.1.1 HCL.out.2.1 (by have := HCL.out.2.2; omega) HCL.out.1.2)
              clear e0 e1 e2
              obtain ⟨S, C, hN, h1s, hs, hSi⟩ := hStQ.out.gone lr
              have HG := Lib.hid (And.intro hN (And.intro h1s (And.intro hs hSi)))
              have HOC := Lib.hid (hStQ.out.ok.crash lr (by omega))
              clear hN h1s hs hSi
              go_wp2_with fail
              refine (duo_crash hPA.out.duo hStQ.out.ok (by omega) HRW.out.1 HRW.out.2.1 HRW.out.2.2).mono ?_
              rintro e y5 ⟨rfl, hD5, hk5⟩
              replace e3 := hk5.cell e3 (wr_not H9.out.1)
              have HD5 := Lib.hid hD5
              clear hD5 hk5
              go_wp2_with fail
              refine (duo_refcrash HD5.out hStQ.out.ok (by omega) HRW.out.1).mono ?_
              rintro e y6 ⟨rfl, hD6, _⟩
              have HO := Lib.hid (duo_open HEW.out.s hD6 HG.out.1 HG.out.2.1 HG.out.2.2.1 HOC.out rfl rfl (by omega) (by omega))
              clear hD6 HD5 e3
              go_wp2_with fail
              refine HO.out.mono ?_
              rintro e y7 ⟨g7, R7, rfl, hH7, _⟩
              have HX := Lib.hid (half_open hH7 HG.out.1 HG.out.2.1 HG.out.2.2.1 HOC.out rfl rfl (by omega) (by omega))
              clear hH7 HO
              go_wp2_with fail
              refine HX.out.mono ?_
              rintro e y8 ⟨g8, Q8, rfl, hP8⟩
              have HP8 := Lib.hid hP8
              have HSt8 := Lib.hid (Stands.clean (i := i + 1) (near_clean HG.out.1 HG.out.2.1) HG.out.2.2.1 HG.out.2.2.2 (cleaned_ok (ok_one HOC.out HG.out.2.1) S))
              have HOF8 : Hid (((d.crash lr).cleaned S).off = false) := Lib.hid ((cleaned_left (d.crash lr) S).2.trans rfl)
              have HIN8 := Lib.hid (HIN.out y8 hP8.duo.mine.keeps)
              generalize (d.crash lr).cleaned S = d8 at *
              clear hP8 HX HOC
              go_wp2_with fail
              refine HIN8.out.mono ?_
              rintro e y9 ⟨rfl, hk9⟩
              have HP9 := Lib.hid (HP8.out.nil hk9)
              clear hk9 HP8 HIN8
              go_wp2_with fail
              go_meet
              exact ⟨g7, g8, R7, Q8, S, d8, rfl, rfl, HP9, HSt8, Lib.hid (fun h => by rw [HOF8.out] at h; cases h)⟩
            · have hlli : (30 : Int) < ll := by omega
              have HF := Lib.hid (HK1.out.trans hPA.out.duo.mine.keeps)
              go_wp2_with fail
              go_ret
              exact ⟨rfl, HF.out⟩
        case rest =>
          obtain ⟨g, gx, R, Q, s, d, rfl, rfl, hP, hSt, hE3⟩ := hcut
          clear e0 e1 e2 e3 hPA HCL hStP hoff hk7 HB9 H9 H9N HWA HGM HNK
          obtain ⟨at_, ct, tt, hA⟩ := hP.out.duo.ref
          have f2 := hA.obj.cell 2 rfl
          clear hA
          rcases Bool.eq_false_or_eq_true d.off with hb | hb
          · rw [hb] at f2
            go_upto_region 44 with fail
            refine wp_region_held_drew (S := fun w' => w'.cell? ⟨qd, 2, none⟩ = some (.bool true)) (by kernel_rfl) (by exact f2) (fun hHeld => ?_)
            have hkd : Keeps Nil wc wc.drew := (Keeps.refl Nil wc).drew
            have HDv := Lib.hid (hP.out.nil hkd)
            have HEv := Lib.hid (fun h => And.intro (hkd.cell (hE3.out h).1 (fun h => h)) (hE3.out h).2)
            have ho := off_walk HDv.out.duo.mine.is
            rw [hb] at ho
            have HO := Lib.hid ho
            have HBO := Lib.hid hb
            clear hkd f2 ho hb hP hE3
            generalize wc.drew = v5 at *
            refine takeL (i := 0) (v := _) rfl (by kernel_rfl) (by kernel_rfl) (by kernel_rfl) (fun _ _ _ h => h) (Or.inl ⟨by rfl, by intro w hSw; (try dsimp only at hSw); go_simp; try with_reducible rfl⟩) (by assumption) ?_
            try simp only [Act.put, List.setIfInBounds_toArray, List.set_cons_zero, List.set_cons_succ]
            refine takeL (i := 2) (v := _) rfl (by kernel_rfl) (by kernel_rfl) (by kernel_rfl) (fun _ _ _ h => h) (Or.inl ⟨by rfl, by intro w hSw; (try dsimp only at hSw); go_simp; try with_reducible rfl⟩) (by assumption) ?_
            try simp only [Act.put, List.setIfInBounds_toArray, List.set_cons_zero, List.set_cons_succ]
            refine takeL (i := 3) (v := _) rfl (by kernel_rfl) (by kernel_rfl) (by kernel_rfl) (fun _ _ _ h => h) (Or.inl ⟨by rfl, by intro w hSw; (try dsimp only at hSw); go_simp; try with_reducible rfl⟩) (by assumption) ?_
            try simp only [Act.put, List.setIfInBounds_toArray, List.set_cons_zero, List.set_cons_succ]
            refine takeL (i := 4) (v := _) rfl (by kernel_rfl) (by kernel_rfl) (by kernel_rfl) (fun _ _ _ h => h) (Or.inl ⟨by rfl, by intro w hSw; (try dsimp only at hSw); go_simp; try with_reducible rfl⟩) (by assumption) ?_
            try simp only [Act.put, List.setIfInBounds_toArray, List.set_cons_zero, List.set_cons_succ]
            refine takeL (i := 5) (v := _) rfl (by kernel_rfl) (by kernel_rfl) (by kernel_rfl) (fun _ _ _ h => h) (Or.inl ⟨by rfl, by intro w hSw; (try dsimp only at hSw); go_simp; try with_reducible rfl⟩) (by assumption) ?_
            try simp only [Act.put, List.setIfInBounds_toArray, List.set_cons_zero, List.set_cons_succ]
            refine onlyL (i := 1) rfl (by kernel_rfl) (fun K hK => ?_)
            go_simp
            refine HO.out.mono ?_
            rintro e y1 ⟨rfl, rfl⟩
            refine (fun hHeld => hK _ _ hHeld ?_) (hHeld)
            clear hK
            try simp only [Act.put, List.setIfInBounds_toArray, List.set_cons_zero, List.set_cons_succ]
            refine takeL (i := 6) (v := _) rfl (by kernel_rfl) (by kernel_rfl) (by kernel_rfl) (fun _ _ _ h => h) (Or.inl ⟨by rfl, by intro w hSw; (try dsimp only at hSw); go_simp; try with_reducible rfl⟩) (by assumption) ?_
            try simp only [Act.put, List.setIfInBounds_toArray, List.set_cons_zero, List.set_cons_succ]
            refine takeL (i := 7) (v := _) rfl (by kernel_rfl) (by kernel_rfl) (by kernel_rfl) (fun _ _ _ h => h) (Or.inl ⟨by rfl, by intro w hSw; (try dsimp only at hSw); go_simp; try with_reducible rfl⟩) (by assumption) ?_
            try simp only [Act.put, List.setIfInBounds_toArray, List.set_cons_zero, List.set_cons_succ]
            refine takeL (i := 8) (v := _) rfl (by kernel_rfl) (by kernel_rfl) (by kernel_rfl) (fun _ _ _ h => h) (Or.inl ⟨by rfl, by intro w hSw; (try dsimp only at hSw); go_simp; try with_reducible rfl⟩) (by assumption) ?_
            try simp only [Act.put, List.setIfInBounds_toArray, List.set_cons_zero, List.set_cons_succ]
            refine takeL (i := 10) (v := _) rfl (by kernel_rfl) (by kernel_rfl) (by kernel_rfl) (fun _ _ _ h => h) (Or.inl ⟨by rfl, by intro w hSw; (try dsimp only at hSw); go_simp; try with_reducible rfl⟩) (by assumption) ?_
            try simp only [Act.put, List.setIfInBounds_toArray, List.set_cons_zero, List.set_cons_succ]
            refine onlyL (i := 9) rfl (by kernel_rfl) (fun K hK => ?_)
            go_simp
            refine (image_walk HDv.out.duo.mine.is hSt.out.ok).mono ?_
            rintro e y2 ⟨ai, ci, rfl, hoi, hki, _⟩
            refine (fun hHeld => hK _ _ hHeld ?_) ((hki.cell hHeld (fun h => h)))
            clear hK
            try simp only [Act.put, List.setIfInBounds_toArray, List.set_cons_zero, List.set_cons_succ]
            refine onlyL (i := 11) rfl (by kernel_rfl) (fun K hK => ?_)
            go_simp
            refine (refimage_walk (HDv.out.nil hki).duo.ref hSt.out.ok).mono ?_
            rintro e y3 ⟨ax, cx, rfl, hox, hkx, _⟩
            refine (fun hHeld => hK _ _ hHeld ?_) ((hkx.cell hHeld (fun h => h)))
            clear hK
            try simp only [Act.put, List.setIfInBounds_toArray, List.set_cons_zero, List.set_cons_succ]
            refine onlyL (i := 12) rfl (by kernel_rfl) (fun K hK => ?_)
            go_simp
            refine (sameBytes_walk (ca := ci) (cb := cx) ((hoi.row (areB_wf hSt.out.ok.image_bytes)).keep hkx) (hox.row (areB_wf hSt.out.ok.image_bytes))).mono ?_
            rw [sameL_refl]
            rintro e y4 ⟨rfl, hd4⟩
            have hk4 : Keeps Nil y3 y4 := hd4.keeps _
            refine (fun hHeld => hK _ _ hHeld ?_) ((hk4.cell hHeld (fun h => h)))
            clear hK
            try simp only [Act.put, List.setIfInBounds_toArray, List.set_cons_zero, List.set_cons_succ]
            refine takeL (i := 13) (v := _) rfl (by kernel_rfl) (by kernel_rfl) (by kernel_rfl) (fun _ _ _ h => h) (Or.inl ⟨by rfl, by intro w hSw; (try dsimp only at hSw); go_simp; try with_reducible rfl⟩) (by assumption) ?_
            try simp only [Act.put, List.setIfInBounds_toArray, List.set_cons_zero, List.set_cons_succ]
            refine takeL (i := 14) (v := _) rfl (by kernel_rfl) (by kernel_rfl) (by kernel_rfl) (fun _ _ _ h => h) (Or.inl ⟨by rfl, by intro w hSw; (try dsimp only at hSw); go_simp; try with_reducible rfl⟩) (by assumption) ?_
            try simp only [Act.put, List.setIfInBounds_toArray, List.set_cons_zero, List.set_cons_succ]
            refine wpAnyH_done (by kernel_rfl) ?_ _
            have HP4 := Lib.hid (((HDv.out.nil hki).nil hkx).nil hk4)
            have HE4 := Lib.hid (fun h => And.intro (hk4.cell (hkx.cell (hki.cell (HEv.out h).1 (fun h => h)) (fun h => h)) (fun h => h)) (HEv.out h).2)
            clear hki hkx hk4 hd4 hoi hox HDv HEv HO
            have f2 := hHeld
            clear hHeld
            go_upto_region 46 with fail
            refine wp_region_held_drew (S := fun w' => w'.cell? ⟨qd, 2, none⟩ = some (.bool true)) (by kernel_rfl) (by exact f2) (fun hHeld => ?_)
            have hkd : Keeps Nil y4 y4.drew := (Keeps.refl Nil y4).drew
            have HP6 := Lib.hid (HP4.out.nil hkd)
            have e3 := hkd.cell (HE4.out HBO.out).1 (fun h => h)
            have H9 := Lib.hid (HE4.out HBO.out).2
            clear hkd HP4 HE4
            generalize y4.drew = v6 at *
            refine takeL (i := 0) (v := _) rfl (by kernel_rfl) (by kernel_rfl) (by kernel_rfl) (fun _ _ _ h => h) (Or.inl ⟨by rfl, by intro w hSw; (try dsimp only at hSw); go_simp; try with_reducible rfl⟩) (by assumption) ?_
            try simp only [Act.put, List.setIfInBounds_toArray, List.set_cons_zero, List.set_cons_succ]
            refine takeL (i := 1) (v := _) rfl (by kernel_rfl) (by kernel_rfl) (by kernel_rfl) (fun _ _ _ h => h) (Or.inl ⟨by rfl, by intro w hSw; (try dsimp only at hSw); go_simp; try with_reducible rfl⟩) (by assumption) ?_
            try simp only [Act.put, List.setIfInBounds_toArray, List.set_cons_zero, List.set_cons_succ]
            refine takeL (i := 2) (v := _) rfl (by kernel_rfl) (by kernel_rfl) (by kernel_rfl) (fun _ _ _ h => h) (Or.inl ⟨by rfl, by intro w hSw; (try dsimp only at hSw); go_simp; try with_reducible rfl⟩) (by assumption) ?_
            try simp only [Act.put, List.setIfInBounds_toArray, List.set_cons_zero, List.set_cons_succ]
            refine takeL (i := 3) (v := _) rfl (by kernel_rfl) (by kernel_rfl) (by kernel_rfl) (fun _ _ _ h => h) (Or.inl ⟨by rfl, by intro w hSw; (try dsimp only at hSw); go_simp; try with_reducible rfl⟩) (by assumption) ?_
            try simp only [Act.put, List.setIfInBounds_toArray, List.set_cons_zero, List.set_cons_succ]
            refine takeL (i := 4) (v := _) rfl (by kernel_rfl) (by kernel_rfl) (by kernel_rfl) (fun _ _ _ h => h) (Or.inl ⟨by rfl, by intro w hSw; (try dsimp only at hSw); go_simp; try with_reducible rfl⟩) (by assumption) ?_
            try simp only [Act.put, List.setIfInBounds_toArray, List.set_cons_zero, List.set_cons_succ]
            refine takeL (i := 5) (v := _) rfl (by kernel_rfl) (by kernel_rfl) (by kernel_rfl) (fun _ _ _ h => h) (Or.inl ⟨by rfl, by intro w hSw; (try dsimp only at hSw); go_simp; try with_reducible rfl⟩) (by assumption) ?_
            try simp only [Act.put, List.setIfInBounds_toArray, List.set_cons_zero, List.set_cons_succ]
            refine takeL (i := 6) (v := undef) rfl (by kernel_rfl) (by kernel_rfl) (by kernel_rfl) (fun _ _ _ h => h) (Or.inr ⟨by rfl, rfl⟩) (by assumption) ?_
            try simp only [Act.put, List.setIfInBounds_toArray, List.set_cons_zero, List.set_cons_succ]
            refine takeL (i := 7) (v := undef) rfl (by kernel_rfl) (by kernel_rfl) (by kernel_rfl) (fun _ _ _ h => h) (Or.inr ⟨by rfl, rfl⟩) (by assumption) ?_
            try simp only [Act.put, List.setIfInBounds_toArray, List.set_cons_zero, List.set_cons_succ]
            refine takeL (i := 8) (v := undef) rfl (by kernel_rfl) (by kernel_rfl) (by kernel_rfl) (fun _ _ _ h => h) (Or.inr ⟨by rfl, rfl⟩) (by assumption) ?_
            try simp only [Act.put, List.setIfInBounds_toArray, List.set_cons_zero, List.set_cons_succ]
            refine takeL (i := 9) (v := undef) rfl (by kernel_rfl) (by kernel_rfl) (by kernel_rfl) (fun _ _ _ h => h) (Or.inr ⟨by rfl, rfl⟩) (by assumption) ?_
            try simp only [Act.put, List.setIfInBounds_toArray, List.set_cons_zero, List.set_cons_succ]
            refine takeL (i := 10) (v := undef) rfl (by kernel_rfl) (by kernel_rfl) (by kernel_rfl) (fun _ _ _ h => h) (Or.inr ⟨by rfl, rfl⟩) (by assumption) ?_
            try simp only [Act.put, List.setIfInBounds_toArray, List.set_cons_zero, List.set_cons_succ]
            refine takeL (i := 11) (v := undef) rfl (by kernel_rfl) (by kernel_rfl) (by kernel_rfl) (fun _ _ _ h => h) (Or.inr ⟨by rfl, rfl⟩) (by assumption) ?_
            try simp only [Act.put, List.setIfInBounds_toArray, List.set_cons_zero, List.set_cons_succ]
            refine takeL (i := 12) (v := undef) rfl (by kernel_rfl) (by kernel_rfl) (by kernel_rfl) (fun _ _ _ h => h) (Or.inr ⟨by rfl, rfl⟩) (by assumption) ?_
            try simp only [Act.put, List.setIfInBounds_toArray, List.set_cons_zero, List.set_cons_succ]
            refine takeL (i := 13) (v := undef) rfl (by kernel_rfl) (by kernel_rfl) (by kernel_rfl) (fun _ _ _ h => h) (Or.inr ⟨by rfl, rfl⟩) (by assumption) ?_
            try simp only [Act.put, List.setIfInBounds_toArray, List.set_cons_zero, List.set_cons_succ]
            refine takeL (i := 14) (v := undef) rfl (by kernel_rfl) (by kernel_rfl) (by kernel_rfl) (fun _ _ _ h => h) (Or.inr ⟨by rfl, rfl⟩) (by assumption) ?_
            try simp only [Act.put, List.setIfInBounds_toArray, List.set_cons_zero, List.set_cons_succ]
            refine takeL (i := 15) (v := undef) rfl (by kernel_rfl) (by kernel_rfl) (by kernel_rfl) (fun _ _ _ h => h) (Or.inr ⟨by rfl, rfl⟩) (by assumption) ?_
            try simp only [Act.put, List.setIfInBounds_toArray, List.set_cons_zero, List.set_cons_succ]
            refine takeL (i := 16) (v := undef) rfl (by kernel_rfl) (by kernel_rfl) (by kernel_rfl) (fun _ _ _ h => h) (Or.inr ⟨by rfl, rfl⟩) (by assumption) ?_
            try simp only [Act.put, List.setIfInBounds_toArray, List.set_cons_zero, List.set_cons_succ]
            refine takeL (i := 17) (v := undef) rfl (by kernel_rfl) (by kernel_rfl) (by kernel_rfl) (fun _ _ _ h => h) (Or.inr ⟨by rfl, rfl⟩) (by assumption) ?_
            try simp only [Act.put, List.setIfInBounds_toArray, List.set_cons_zero, List.set_cons_succ]
            refine takeL (i := 18) (v := undef) rfl (by kernel_rfl) (by kernel_rfl) (by kernel_rfl) (fun _ _ _ h => h) (Or.inr ⟨by rfl, rfl⟩) (by assumption) ?_
            try simp only [Act.put, List.setIfInBounds_toArray, List.set_cons_zero, List.set_cons_succ]
            refine takeL (i := 19) (v := undef) rfl (by kernel_rfl) (by kernel_rfl) (by kernel_rfl) (fun _ _ _ h => h) (Or.inr ⟨by rfl, rfl⟩) (by assumption) ?_
            try simp only [Act.put, List.setIfInBounds_toArray, List.set_cons_zero, List.set_cons_succ]
            refine takeL (i := 20) (v := _) rfl (by kernel_rfl) (by kernel_rfl) (by kernel_rfl) (fun _ _ _ h => h) (Or.inl ⟨by rfl, by intro w hSw; (try dsimp only at hSw); go_simp; try with_reducible rfl⟩) (by assumption) ?_
            try simp only [Act.put, List.setIfInBounds_toArray, List.set_cons_zero, List.set_cons_succ]
            refine wpAnyH_done (by kernel_rfl) ?_ _
            have f2 := hHeld
            clear hHeld
            obtain ⟨S, C, hN, h1s, hs, hSi⟩ := hSt.out.gone lr
            have HG := Lib.hid (And.intro hN (And.intro h1s (And.intro hs hSi)))
            have HOC := Lib.hid (hSt.out.ok.crash lr (by omega))
            clear hN h1s hs hSi
            go_wp2_with fail
            refine (duo_crash HP6.out.duo hSt.out.ok (by omega) HRW.out.1 HRW.out.2.1 HRW.out.2.2).mono ?_
            rintro e y5 ⟨rfl, hD5, hk5⟩
            replace e3 := hk5.cell e3 (wr_not H9.out.1)
            have HD5 := Lib.hid hD5
            clear hD5 hk5
            go_wp2_with fail
            refine (duo_refcrash HD5.out hSt.out.ok (by omega) HRW.out.1).mono ?_
            rintro e y6 ⟨rfl, hD6, _⟩
            have HO := Lib.hid (duo_open HEW.out.s hD6 HG.out.1 HG.out.2.1 HG.out.2.2.1 HOC.out rfl rfl (by omega) (by omega))
            clear hD6 HD5 e3
            go_wp2_with fail
            refine HO.out.mono ?_
            rintro e y7 ⟨g7, R7, rfl, hH7, _⟩
            have HX := Lib.hid (half_open hH7 HG.out.1 HG.out.2.1 HG.out.2.2.1 HOC.out rfl rfl (by omega) (by omega))
            clear hH7 HO
            go_wp2_with fail
            refine HX.out.mono ?_
            rintro e y8 ⟨g8, Q8, rfl, hP8⟩
            have HP8 := Lib.hid hP8
            have HSt8 := Lib.hid (Stands.clean (i := i + 1) (near_clean HG.out.1 HG.out.2.1) HG.out.2.2.1 HG.out.2.2.2 (cleaned_ok (ok_one HOC.out HG.out.2.1) S))
            have HOF8 : Hid (((d.crash lr).cleaned S).off = false) := Lib.hid ((cleaned_left (d.crash lr) S).2.trans rfl)
            have HIN8 := Lib.hid (HIN.out y8 hP8.duo.mine.keeps)
            generalize (d.crash lr).cleaned S = d8 at *
            clear hP8 HX HOC
            go_wp2_with fail
            refine HIN8.out.mono ?_
            rintro e y9 ⟨rfl, hk9⟩
            have HP9 := Lib.hid (HP8.out.nil hk9)
            clear hk9 HP8 HIN8
            have HI9 := Lib.hid (image_walk HP9.out.duo.mine.is HSt8.out.ok)
            clear f2
            go_wp2_with fail
            refine HI9.out.mono ?_
            rintro e yA ⟨ai, ci, rfl, hoi, hki, _⟩
            have HPA := Lib.hid (HP9.out.nil hki)
            have HRI := Lib.hid (hoi.row (areB_wf HSt8.out.ok.image_bytes))
            have HJ := Lib.hid (refimage_walk HPA.out.duo.ref HSt8.out.ok)
            clear hoi hki HI9 HP9
            go_wp2_with fail
            refine HJ.out.mono ?_
            rintro e yB ⟨ax, cx, rfl, hox, hkx, _⟩
            have hsb := sameBytes_walk (ca := ci) (cb := cx) (HRI.out.keep hkx) (hox.row (areB_wf HSt8.out.ok.image_bytes))
            rw [sameL_refl] at hsb
            have HSB := Lib.hid hsb
            have HPB := Lib.hid (HPA.out.nil hkx)
            clear hox hkx hsb HRI HJ HPA
            generalize d8.image.length = Lx at *
            go_wp2_with fail
            refine HSB.out.mono ?_
            rintro e yC ⟨rfl, hdC⟩
            have HPC := Lib.hid (HPB.out.nil (hdC.keeps _))
            clear hdC HSB HPB
            go_wp2_with fail
            go_roundw
            case rel => first | exact ⟨i + 1, g7, g8, R7, Q8, S, d8, by go_num, rfl, rfl, by omega, HPC, HSt8, HOF8⟩ | ((repeat apply Exists.intro); exact ⟨⟨i + 1, g7, g8, R7, Q8, S, d8, by go_num, rfl, rfl, by omega, HPC, HSt8, HOF8⟩, rfl⟩)
            case measure => first | (simp [intOf]; done) | (simp [intOf]; omega)
          · rw [hb] at f2
            go_upto_region 44 with fail
            refine wp_region_held_drew (S := fun w' => w'.cell? ⟨qd, 2, none⟩ = some (.bool false)) (by kernel_rfl) (by exact f2) (fun hHeld => ?_)
            have hkd : Keeps Nil wc wc.drew := (Keeps.refl Nil wc).drew
            have HDv := Lib.hid (hP.out.nil hkd)
            have HEv := Lib.hid (fun h => And.intro (hkd.cell (hE3.out h).1 (fun h => h)) (hE3.out h).2)
            have ho := off_walk HDv.out.duo.mine.is
            rw [hb] at ho
            have HO := Lib.hid ho
            have HBO := Lib.hid hb
            clear hkd f2 ho hb hP hE3
            generalize wc.drew = v5 at *
            refine takeL (i := 0) (v := _) rfl (by kernel_rfl) (by kernel_rfl) (by kernel_rfl) (fun _ _ _ h => h) (Or.inl ⟨by rfl, by intro w hSw; (try dsimp only at hSw); go_simp; try with_reducible rfl⟩) (by assumption) ?_
            try simp only [Act.put, List.setIfInBounds_toArray, List.set_cons_zero, List.set_cons_succ]
            refine takeL (i := 2) (v := _) rfl (by kernel_rfl) (by kernel_rfl) (by kernel_rfl) (fun _ _ _ h => h) (Or.inl ⟨by rfl, by intro w hSw; (try dsimp only at hSw); go_simp; try with_reducible rfl⟩) (by assumption) ?_
            try simp only [Act.put, List.setIfInBounds_toArray, List.set_cons_zero, List.set_cons_succ]
            refine takeL (i := 3) (v := _) rfl (by kernel_rfl) (by kernel_rfl) (by kernel_rfl) (fun _ _ _ h => h) (Or.inl ⟨by rfl, by intro w hSw; (try dsimp only at hSw); go_simp; try with_reducible rfl⟩) (by assumption) ?_
            try simp only [Act.put, List.setIfInBounds_toArray, List.set_cons_zero, List.set_cons_succ]
            refine takeL (i := 4) (v := _) rfl (by kernel_rfl) (by kernel_rfl) (by kernel_rfl) (fun _ _ _ h => h) (Or.inl ⟨by rfl, by intro w hSw; (try dsimp only at hSw); go_simp; try with_reducible rfl⟩) (by assumption) ?_
            try simp only [Act.put, List.setIfInBounds_toArray, List.set_cons_zero, List.set_cons_succ]
            refine takeL (i := 5) (v := _) rfl (by kernel_rfl) (by kernel_rfl) (by kernel_rfl) (fun _ _ _ h => h) (Or.inl ⟨by rfl, by intro w hSw; (try dsimp only at hSw); go_simp; try with_reducible rfl⟩) (by assumption) ?_
            try simp only [Act.put, List.setIfInBounds_toArray, List.set_cons_zero, List.set_cons_succ]
            refine onlyL (i := 1) rfl (by kernel_rfl) (fun K hK => ?_)
            go_simp
            refine HO.out.mono ?_
            rintro e y1 ⟨rfl, rfl⟩
            refine (fun hHeld => hK _ _ hHeld ?_) (hHeld)
            clear hK
            try simp only [Act.put, List.setIfInBounds_toArray, List.set_cons_zero, List.set_cons_succ]
            refine takeL (i := 6) (v := _) rfl (by kernel_rfl) (by kernel_rfl) (by kernel_rfl) (fun _ _ _ h => h) (Or.inl ⟨by rfl, by intro w hSw; (try dsimp only at hSw); go_simp; try with_reducible rfl⟩) (by assumption) ?_
            try simp only [Act.put, List.setIfInBounds_toArray, List.set_cons_zero, List.set_cons_succ]
            refine takeL (i := 7) (v := _) rfl (by kernel_rfl) (by kernel_rfl) (by kernel_rfl) (fun _ _ _ h => h) (Or.inl ⟨by rfl, by intro w hSw; (try dsimp only at hSw); go_simp; try with_reducible rfl⟩) (by assumption) ?_
            try simp only [Act.put, List.setIfInBounds_toArray, List.set_cons_zero, List.set_cons_succ]
            refine takeL (i := 8) (v := _) rfl (by kernel_rfl) (by kernel_rfl) (by kernel_rfl) (fun _ _ _ h => h) (Or.inl ⟨by rfl, by intro w hSw; (try dsimp only at hSw); go_simp; try with_reducible rfl⟩) (by assumption) ?_
            try simp only [Act.put, List.setIfInBounds_toArray, List.set_cons_zero, List.set_cons_succ]
            refine takeL (i := 10) (v := _) rfl (by kernel_rfl) (by kernel_rfl) (by kernel_rfl) (fun _ _ _ h => h) (Or.inl ⟨by rfl, by intro w hSw; (try dsimp only at hSw); go_simp; try with_reducible rfl⟩) (by assumption) ?_
            try simp only [Act.put, List.setIfInBounds_toArray, List.set_cons_zero, List.set_cons_succ]
            refine onlyL (i := 9) rfl (by kernel_rfl) (fun K hK => ?_)
            go_simp
            refine (image_walk HDv.out.duo.mine.is hSt.out.ok).mono ?_
            rintro e y2 ⟨ai, ci, rfl, hoi, hki, _⟩
            refine (fun hHeld => hK _ _ hHeld ?_) ((hki.cell hHeld (fun h => h)))
            clear hK
            try simp only [Act.put, List.setIfInBounds_toArray, List.set_cons_zero, List.set_cons_succ]
            refine onlyL (i := 11) rfl (by kernel_rfl) (fun K hK => ?_)
            go_simp
            refine (refimage_walk (HDv.out.nil hki).duo.ref hSt.out.ok).mono ?_
            rintro e y3 ⟨ax, cx, rfl, hox, hkx, _⟩
            refine (fun hHeld => hK _ _ hHeld ?_) ((hkx.cell hHeld (fun h => h)))
            clear hK
            try simp only [Act.put, List.setIfInBounds_toArray, List.set_cons_zero, List.set_cons_succ]
            refine onlyL (i := 12) rfl (by kernel_rfl) (fun K hK => ?_)
            go_simp
            refine (sameBytes_walk (ca := ci) (cb := cx) ((hoi.row (areB_wf hSt.out.ok.image_bytes)).keep hkx) (hox.row (areB_wf hSt.out.ok.image_bytes))).mono ?_
            rw [sameL_refl]
            rintro e y4 ⟨rfl, hd4⟩
            have hk4 : Keeps Nil y3 y4 := hd4.keeps _
            refine (fun hHeld => hK _ _ hHeld ?_) ((hk4.cell hHeld (fun h => h)))
            clear hK
            try simp only [Act.put, List.setIfInBounds_toArray, List.set_cons_zero, List.set_cons_succ]
            refine takeL (i := 13) (v := _) rfl (by kernel_rfl) (by kernel_rfl) (by kernel_rfl) (fun _ _ _ h => h) (Or.inl ⟨by rfl, by intro w hSw; (try dsimp only at hSw); go_simp; try with_reducible rfl⟩) (by assumption) ?_
            try simp only [Act.put, List.setIfInBounds_toArray, List.set_cons_zero, List.set_cons_succ]
            refine takeL (i := 14) (v := _) rfl (by kernel_rfl) (by kernel_rfl) (by kernel_rfl) (fun _ _ _ h => h) (Or.inl ⟨by rfl, by intro w hSw; (try dsimp only at hSw); go_simp; try with_reducible rfl⟩) (by assumption) ?_
            try simp only [Act.put, List.setIfInBounds_toArray, List.set_cons_zero, List.set_cons_succ]
            refine wpAnyH_done (by kernel_rfl) ?_ _
            have HP4 := Lib.hid (((HDv.out.nil hki).nil hkx).nil hk4)
            have HE4 := Lib.hid (fun h => And.intro (hk4.cell (hkx.cell (hki.cell (HEv.out h).1 (fun h => h)) (fun h => h)) (fun h => h)) (HEv.out h).2)
            clear hki hkx hk4 hd4 hoi hox HDv HEv HO
            have f2 := hHeld
            clear hHeld
            have x1 := Blk.cell HP4.out.rs 1 rfl
            go_upto_region 46 with fail
            refine wp_region_held_drew (S := fun w' => w'.cell? ⟨qd, 2, none⟩ = some (.bool false) ∧ w'.cell? ⟨gx, 1, none⟩ = some (.int .i64 s.seq)) (by kernel_rfl) ⟨f2, x1⟩ (fun hHeld => ?_)
            have hkd : Keeps Nil y4 y4.drew := (Keeps.refl Nil y4).drew
            have HP6 := Lib.hid (HP4.out.nil hkd)
            clear hkd HP4 HE4 x1 f2
            generalize y4.drew = v6 at *
            have HSQ := Lib.hid (seq_walk HP6.out.sl)
            have HRA := Lib.hid (room_walk HP6.out.duo.mine.is HP6.out.sl (by rw [hSt.out.len]; exact hn1) (by rw [hSt.out.len]; omega))
            have HRB := Lib.hid (refroom_walk HP6.out.duo.ref HP6.out.rs (by rw [hSt.out.len]; exact hn1) (by rw [hSt.out.len]; omega))
            generalize d.room = RM at *
            refine takeL (i := 0) (v := _) rfl (by kernel_rfl) (by kernel_rfl) (by kernel_rfl) (fun _ _ _ h => h) (Or.inl ⟨by rfl, by intro w hSw; (try dsimp only at hSw); go_simp; try with_reducible rfl⟩) (by assumption) ?_
            try simp only [Act.put, List.setIfInBounds_toArray, List.set_cons_zero, List.set_cons_succ]
            refine takeL (i := 1) (v := _) rfl (by kernel_rfl) (by kernel_rfl) (by kernel_rfl) (fun _ _ _ h => h) (Or.inl ⟨by rfl, by intro w hSw; (try dsimp only at hSw); go_simp; try with_reducible rfl⟩) (by assumption) ?_
            try simp only [Act.put, List.setIfInBounds_toArray, List.set_cons_zero, List.set_cons_succ]
            refine takeL (i := 2) (v := _) rfl (by kernel_rfl) (by kernel_rfl) (by kernel_rfl) (fun _ _ _ h => h) (Or.inl ⟨by rfl, by intro w hSw; (try dsimp only at hSw); go_simp; try with_reducible rfl⟩) (by assumption) ?_
            try simp only [Act.put, List.setIfInBounds_toArray, List.set_cons_zero, List.set_cons_succ]
            refine takeL (i := 3) (v := _) rfl (by kernel_rfl) (by kernel_rfl) (by kernel_rfl) (fun _ _ _ h => h) (Or.inl ⟨by rfl, by intro w hSw; (try dsimp only at hSw); go_simp; try with_reducible rfl⟩) (by assumption) ?_
            try simp only [Act.put, List.setIfInBounds_toArray, List.set_cons_zero, List.set_cons_succ]
            refine takeL (i := 4) (v := _) rfl (by kernel_rfl) (by kernel_rfl) (by kernel_rfl) (fun _ _ _ h => h) (Or.inl ⟨by rfl, by intro w hSw; (try dsimp only at hSw); go_simp; try with_reducible rfl⟩) (by assumption) ?_
            try simp only [Act.put, List.setIfInBounds_toArray, List.set_cons_zero, List.set_cons_succ]
            refine takeL (i := 5) (v := _) rfl (by kernel_rfl) (by kernel_rfl) (by kernel_rfl) (fun _ _ _ h => h) (Or.inl ⟨by rfl, by intro w hSw; (try dsimp only at hSw); go_simp; try with_reducible rfl⟩) (by assumption) ?_
            try simp only [Act.put, List.setIfInBounds_toArray, List.set_cons_zero, List.set_cons_succ]
            refine takeL (i := 6) (v := _) rfl (by kernel_rfl) (by kernel_rfl) (by kernel_rfl) (fun _ _ _ h => h) (Or.inl ⟨by rfl, by intro w hSw; (try dsimp only at hSw); go_simp; try with_reducible rfl⟩) (by assumption) ?_
            try simp only [Act.put, List.setIfInBounds_toArray, List.set_cons_zero, List.set_cons_succ]
            refine takeL (i := 8) (v := _) rfl (by kernel_rfl) (by kernel_rfl) (by kernel_rfl) (fun _ _ _ h => h) (Or.inl ⟨by rfl, by intro w hSw; (try dsimp only at hSw); go_simp; try with_reducible rfl⟩) (by assumption) ?_
            try simp only [Act.put, List.setIfInBounds_toArray, List.set_cons_zero, List.set_cons_succ]
            refine takeL (i := 9) (v := _) rfl (by kernel_rfl) (by kernel_rfl) (by kernel_rfl) (fun _ _ _ h => h) (Or.inl ⟨by rfl, by intro w hSw; (try dsimp only at hSw); go_simp; try with_reducible rfl⟩) (by assumption) ?_
            try simp only [Act.put, List.setIfInBounds_toArray, List.set_cons_zero, List.set_cons_succ]
            refine takeL (i := 10) (v := _) rfl (by kernel_rfl) (by kernel_rfl) (by kernel_rfl) (fun _ _ _ h => h) (Or.inl ⟨by rfl, by intro w hSw; (try dsimp only at hSw); go_simp; try with_reducible rfl⟩) (by assumption) ?_
            try simp only [Act.put, List.setIfInBounds_toArray, List.set_cons_zero, List.set_cons_succ]
            refine takeL (i := 11) (v := _) rfl (by kernel_rfl) (by kernel_rfl) (by kernel_rfl) (fun _ _ _ h => h) (Or.inl ⟨by rfl, by intro w hSw; (try dsimp only at hSw); go_simp; try with_reducible rfl⟩) (by assumption) ?_
            try simp only [Act.put, List.setIfInBounds_toArray, List.set_cons_zero, List.set_cons_succ]
            refine onlyL (i := 7) rfl (by kernel_rfl) (fun K hK => ?_)
            go_simp
            refine HSQ.out.mono ?_
            rintro e y5 ⟨rfl, rfl⟩
            refine (fun hHeld => hK _ _ hHeld ?_) (hHeld)
            clear hK
            try simp only [Act.put, List.setIfInBounds_toArray, List.set_cons_zero, List.set_cons_succ]
            refine takeL (i := 12) (v := _) rfl (by kernel_rfl) (by kernel_rfl) (by kernel_rfl) (fun _ _ _ h => h) (Or.inl ⟨by rfl, by intro w hSw; (try dsimp only at hSw); go_simp; try with_reducible rfl⟩) (by assumption) ?_
            try simp only [Act.put, List.setIfInBounds_toArray, List.set_cons_zero, List.set_cons_succ]
            refine takeL (i := 13) (v := _) rfl (by kernel_rfl) (by kernel_rfl) (by kernel_rfl) (fun _ _ _ h => h) (Or.inl ⟨by rfl, by intro w hSw; (try dsimp only at hSw); go_simp; try with_reducible rfl⟩) (by assumption) ?_
            try simp only [Act.put, List.setIfInBounds_toArray, List.set_cons_zero, List.set_cons_succ]
            refine takeL (i := 14) (v := _) rfl (by kernel_rfl) (by kernel_rfl) (by kernel_rfl) (fun _ _ _ h => h) (Or.inl ⟨by rfl, by intro w hSw; (try dsimp only at hSw); go_simp; try with_reducible rfl⟩) (by assumption) ?_
            try simp only [Act.put, List.setIfInBounds_toArray, List.set_cons_zero, List.set_cons_succ]
            refine takeL (i := 16) (v := _) rfl (by kernel_rfl) (by kernel_rfl) (by kernel_rfl) (fun _ _ _ h => h) (Or.inl ⟨by rfl, by intro w hSw; (try dsimp only at hSw); go_simp; try with_reducible rfl⟩) (by assumption) ?_
            try simp only [Act.put, List.setIfInBounds_toArray, List.set_cons_zero, List.set_cons_succ]
            refine onlyL (i := 15) rfl (by kernel_rfl) (fun K hK => ?_)
            go_simp
            refine HRA.out.mono ?_
            rintro e y5 ⟨rfl, rfl⟩
            refine (fun hHeld => hK _ _ hHeld ?_) (hHeld)
            clear hK
            try simp only [Act.put, List.setIfInBounds_toArray, List.set_cons_zero, List.set_cons_succ]
            refine onlyL (i := 17) rfl (by kernel_rfl) (fun K hK => ?_)
            go_simp
            refine HRB.out.mono ?_
            rintro e y5 ⟨rfl, rfl⟩
            refine (fun hHeld => hK _ _ hHeld ?_) (hHeld)
            clear hK
            try simp only [Act.put, List.setIfInBounds_toArray, List.set_cons_zero, List.set_cons_succ]
            refine takeL (i := 18) (v := _) rfl (by kernel_rfl) (by kernel_rfl) (by kernel_rfl) (fun _ _ _ h => h) (Or.inl ⟨by rfl, by intro w hSw; (try dsimp only at hSw); go_simp; try with_reducible rfl⟩) (by assumption) ?_
            try simp only [Act.put, List.setIfInBounds_toArray, List.set_cons_zero, List.set_cons_succ]
            refine takeL (i := 19) (v := _) rfl (by kernel_rfl) (by kernel_rfl) (by kernel_rfl) (fun _ _ _ h => h) (Or.inl ⟨by rfl, by intro w hSw; (try dsimp only at hSw); go_simp; try with_reducible rfl⟩) (by assumption) ?_
            try simp only [Act.put, List.setIfInBounds_toArray, List.set_cons_zero, List.set_cons_succ]
            refine takeL (i := 20) (v := _) rfl (by kernel_rfl) (by kernel_rfl) (by kernel_rfl) (fun _ _ _ h => h) (Or.inl ⟨by rfl, by intro w hSw; (try dsimp only at hSw); go_simp; try with_reducible rfl⟩) (by assumption) ?_
            try simp only [Act.put, List.setIfInBounds_toArray, List.set_cons_zero, List.set_cons_succ]
            refine wpAnyH_done (by kernel_rfl) ?_ _
            have f2 := hHeld.1
            clear hHeld HSQ HRA HRB
            go_wp2_with fail
            go_roundw
            case rel => first | exact ⟨i + 1, g, gx, R, Q, s, d, by go_num, rfl, rfl, by omega, HP6, hSt, HBO⟩ | ((repeat apply Exists.intro); exact ⟨⟨i + 1, g, gx, R, Q, s, d, by go_num, rfl, rfl, by omega, HP6, hSt, HBO⟩, rfl⟩)
            case measure => first | (simp [intOf]; done) | (simp [intOf]; omega)
      · obtain rfl : i = len1 := by omega
        have hii : ¬ ((i : Int) < i) := by omega
        have HF := Lib.hid (HK1.out.trans hP.out.duo.mine.keeps)
        clear hP hStP hoff
        go_wp2_with fail
        go_ret
        exact ⟨rfl, HF.out⟩
  · have hl1i : (40 : Int) < len1 := by omega
    go_enter Tryd.func12, Tryd.ntmps12
    go_wp2_with fail
    refine HFI.out.mono ?_
    rintro e w1 ⟨rfl, hk1⟩
    have HK1 := Lib.hid hk1
    clear hk1
    go_wp2_with fail
    go_ret
    exact ⟨rfl, HK1.out⟩
end Go.Proofs.YtkefbgkdkmkghaaDoor
