/-
  Chapter 9: DiskPlays' walk: both disks, side by side.
-/
import Derived.Test.YtkefbgkdkmkghaaDoorDuo
import Derived.Test.YtkefbgkdkmkghaaDoorDos
import Derived.Deep.RegionHeld3
namespace Go.Proofs.YtkefbgkdkmkghaaDoor
set_option linter.unusedSimpArgs false
set_option linter.unusedVariables false
open Go.RowKit

theorem Tryd.zeroDo (w : World) : (zeroValue 47).run Tryd.prog w = .ok (.agg [.int .i64 0, .int .i64 0, .int .i64 0, .slice none 0 0].toArray) w := by kernel_rfl
set_option maxRecDepth 100000 in
set_option maxHeartbeats 3200000 in
theorem diskPlays_walk (a0 : Int) (a1 : Option Addr) (len1 cap1 : Nat) (z : Nat → DoRow) (w : World) {p : Nat → Addr} (wf0 : (Lit.int .i64 a0).wf = true) (w1 : IsDos w a1 len1 z) (hE : Errs w p) :
    Calls Tryd.prog 5 #[.int .i64 a0, .slice a1 len1 cap1] w fun e w' => e = .returned (.bool true) ∧ Keeps Nil w w' := by
  have HES := Lib.hid hE
  have HE := Lib.hid hE.e2
  have HFI := Lib.hid (diskfirst_walk hE.e2)
  have HL := Lib.hid w1
  have hw0 := i64_wf wf0
  have hm1 := w1.most
  clear hE w1 wf0
  by_cases hlen : len1 ≤ 60
  · have hl1i : ¬ ((60 : Int) < len1) := by omega
    obtain ⟨nn, hnn⟩ := Int.eq_ofNat_of_zero_le (Int.emod_nonneg a0 (b := 6) (by omega))
    have hn6 : nn < 6 := by have := Int.emod_lt_of_pos a0 (b := 6) (by omega); omega
    have HNA := Lib.hid (fun w => number_walk a0 6 w hw0.1 hw0.2 (by omega) (by omega))
    rw [hnn] at HNA
    clear hw0 hnn
    go_enter Tryd.func5, Tryd.ntmps5
    go_wp2_with fail
    refine HFI.out.mono ?_
    rintro e w1 ⟨rfl, hk1⟩
    have HK1 := Lib.hid hk1
    clear hk1
    go_wp2_with fail
    refine (HNA.out _).mono ?_
    rintro e w2 ⟨rfl, rfl⟩
    have HNW := Lib.hid (new_walk w1 nn)
    have HNR := Lib.hid (fun w => refnew_walk w nn)
    have hN := (newN_le nn).1
    generalize newN nn = N at *
    go_wp2_with fail
    refine HNW.out.mono ?_
    rintro e w2 hN2
    obtain ⟨pd, R, rfl, hM⟩ := hN2.mine
    have HM2 := Lib.hid (show Mine w w2 pd R (Dk.new N) from ⟨hM.is, HK1.out.trans hM.keeps, fun k hk => Nat.le_trans HK1.out.size (hM.far k hk)⟩)
    clear hN2 hM HNW
    go_wp2_with fail
    refine (HNR.out w2).mono ?_
    rintro e w3 hN3
    obtain ⟨qd, Q, rfl, hD⟩ := hN3.duo HM2.out
    have HD := Lib.hid hD
    have HOK := Lib.hid (Dk.new_ok hN)
    clear hN3 hD HM2 HNR
    go_wp2_with fail
    go_loopw [8, 9, 10, 11, 12, 13, 14] (fun x _ _ _ _ _ _ wr => ∃ (i : Nat) (R Q : Roles) (d : Dk), x = .int .i64 i ∧ i ≤ len1 ∧ Hid (Duo w wr pd qd R Q d d) ∧ Hid (d.Ok (i + 1))) (fun x _ _ _ _ _ _ _ => len1 - (intOf x).toNat)
    case atStart => exact ⟨0, R, Q, _, rfl, Nat.zero_le _, HD, HOK⟩
    case round =>
      obtain ⟨i, R1, Q1, d, rfl, hi, hD, hok⟩ := hrel
      clear HOK HD
      by_cases hil : i < len1
      · have hi1 : (i : Int) < len1 := by omega
        have hi0 : (0 : Int) ≤ i := by omega
        have hz := HL.out.keep hD.out.mine.keeps
        obtain ⟨b, off, ha, hbl, hcell⟩ := hz.cell (by omega)
        subst ha
        obtain ⟨h3, c3⟩ := hcell i hil
        have c0 := h3 0 (by omega)
        have c1 := h3 1 (by omega)
        have c2 := h3 2 (by omega)
        rw [Nat.add_zero] at c0
        rw [← Nat.add_assoc] at c1 c2 c3
        have wf0 := hz.wf i 0 hil (by omega)
        have wf1 := hz.wf i 1 hil (by omega)
        have wf2 := hz.wf i 2 hil (by omega)
        have HRW := Lib.hid (HL.out.row i hil)
        clear hcell h3 hz
        generalize (z i).num 0 = A at *
        generalize (z i).num 1 = B at *
        generalize (z i).num 2 = C at *
        generalize (z i).at_ = la at *
        generalize (z i).len = ll at *
        generalize (z i).cap = lc at *
        generalize (z i).row = lr at *
        have hzd := Tryd.zeroDo
        obtain ⟨wA, g9, hg9, hb9, hwA, hkA⟩ := alloc1 wr [.int .i64 A, .int .i64 B, .int .i64 C, .slice la ll lc] 47
        have HWA : Hid (wr.alloc (.cells #[.int .i64 A, .int .i64 B, .int .i64 C, .slice la ll lc] 47) = wA) := Lib.hid hwA.symm
        have HGM := Lib.hid hg9.symm
        have h9 := hD.out.later (Nat.le_of_eq hg9.symm)
        have HDA := Lib.hid (hD.out.nil hkA)
        have H9 := Lib.hid h9
        have HB9 := Lib.hid hb9
        obtain ⟨kd, hkd⟩ : ∃ kd, kd = A % 7 := ⟨_, rfl⟩
        have hk7 : kd = 0 ∨ kd = 1 ∨ kd = 2 ∨ kd = 3 ∨ kd = 4 ∨ kd = 5 ∨ kd = 6 := by omega
        have HNK := Lib.hid (fun w => number_walk A 7 w wf0.1 wf0.2 (by omega) (by omega))
        rw [← hkd] at HNK
        clear h9 hb9 hg9 hwA hkA hkd hD
        go_upto_region 15 with fail
        rw [HWA.out, HGM.out]
        have e0 := HB9.out.cell 0 rfl
        have e1 := HB9.out.cell 1 rfl
        have e2 := HB9.out.cell 2 rfl
        have e3 := HB9.out.cell 3 rfl
        clear c0 c1 c2 c3 hzd
        go_wp2_with fail
        refine (HNK.out wA).mono ?_
        rintro e w4 ⟨rfl, rfl⟩
        go_upto_block 2 with fail
        go_cut [10, 11, 12, 13, 14] from 30 to 149 (fun _ _ _ _ _ wx => ∃ (R' Q' : Roles) (d' : Dk), Hid (Duo w wx pd qd R' Q' d' d') ∧ Hid (d'.Ok (i + 2)))
        case first =>
          rcases hk7 with rfl | rfl | rfl | rfl | rfl | rfl | rfl
          · skip
            go_wp2_with fail
            refine (filled_walk _ C).mono ?_
            rintro e w5 ⟨g5, rfl, hg5, hb5, hk5⟩
            replace e1 := hk5.cell e1 (fun h => h)
            replace e2 := hk5.cell e2 (fun h => h)
            have h5 := HDA.out.later hg5
            have HD5 := Lib.hid (HDA.out.nil hk5)
            have HR5 := Lib.hid (hb5.row8 (fillL_bytes C) (fillL_len C) (by omega))
            clear e0 e3 hb5 hk5 hg5 HDA
            go_upto_if 77 with fail
            generalize bits BinOp.and IntKind.i64 C 63 = V
            generalize hbo : (V == 7) = bo
            clear hbo
            cases bo with
            | false =>
              have HR5b : Hid (Row .u8 w5 (some ⟨g5, 0, none⟩) 128 (fillL C) ∧ AreB (fillL C)) := Lib.hid ⟨HR5.out, fillL_bytes C⟩
              generalize fillL C = FB at *
              go_upto_region 26 with fail
              refine wp_region_held_drew (S := fun w' => w'.cell? ⟨g9, 1, none⟩ = some (.int .i64 B)) (by kernel_rfl) e1 (fun hHeld => ?_)
              have HD5v := Lib.hid (HD5.out.nil (Keeps.refl Nil w5).drew)
              have HR5v := Lib.hid (HR5b.out.1.keep (Keeps.refl Nil w5).drew)
              clear HD5 e2 e1
              generalize w5.drew = v5 at *
              refine takeL (i := 0) (v := _) rfl (by kernel_rfl) (by kernel_rfl) (by kernel_rfl) (fun _ _ _ h => h) (Or.inl ⟨by rfl, by intro w hSw; (try dsimp only at hSw); go_simp; try with_reducible rfl⟩) (by assumption) ?_
              try simp only [Act.put, List.setIfInBounds_toArray, List.set_cons_zero, List.set_cons_succ]
              refine takeL (i := 1) (v := _) rfl (by kernel_rfl) (by kernel_rfl) (by kernel_rfl) (fun _ _ _ h => h) (Or.inl ⟨by rfl, by intro w hSw; (try dsimp only at hSw); go_simp; try with_reducible rfl⟩) (by assumption) ?_
              try simp only [Act.put, List.setIfInBounds_toArray, List.set_cons_zero, List.set_cons_succ]
              refine takeL (i := 2) (v := _) rfl (by kernel_rfl) (by kernel_rfl) (by kernel_rfl) (fun _ _ _ h => h) (Or.inl ⟨by rfl, by intro w hSw; (try dsimp only at hSw); go_simp; try with_reducible rfl⟩) (by assumption) ?_
              try simp only [Act.put, List.setIfInBounds_toArray, List.set_cons_zero, List.set_cons_succ]
              refine takeL (i := 3) (v := _) rfl (by kernel_rfl) (by kernel_rfl) (by kernel_rfl) (fun _ _ _ h => h) (Or.inl ⟨by rfl, by intro w hSw; (try dsimp only at hSw); go_simp; try with_reducible rfl⟩) (by assumption) ?_
              try simp only [Act.put, List.setIfInBounds_toArray, List.set_cons_zero, List.set_cons_succ]
              refine takeL (i := 5) (v := _) rfl (by kernel_rfl) (by kernel_rfl) (by kernel_rfl) (fun _ _ _ h => h) (Or.inl ⟨by rfl, by intro w hSw; (try dsimp only at hSw); go_simp; try with_reducible rfl⟩) (by assumption) ?_
              try simp only [Act.put, List.setIfInBounds_toArray, List.set_cons_zero, List.set_cons_succ]
              refine takeL (i := 6) (v := _) rfl (by kernel_rfl) (by kernel_rfl) (by kernel_rfl) (fun _ _ _ h => h) (Or.inl ⟨by rfl, by intro w hSw; (try dsimp only at hSw); go_simp; try with_reducible rfl⟩) (by assumption) ?_
              try simp only [Act.put, List.setIfInBounds_toArray, List.set_cons_zero, List.set_cons_succ]
              refine takeL (i := 7) (v := _) rfl (by kernel_rfl) (by kernel_rfl) (by kernel_rfl) (fun _ _ _ h => h) (Or.inl ⟨by rfl, by intro w hSw; (try dsimp only at hSw); go_simp; try with_reducible rfl⟩) (by assumption) ?_
              try simp only [Act.put, List.setIfInBounds_toArray, List.set_cons_zero, List.set_cons_succ]
              refine takeL (i := 8) (v := _) rfl (by kernel_rfl) (by kernel_rfl) (by kernel_rfl) (fun _ _ _ h => h) (Or.inl ⟨by rfl, by intro w hSw; (try dsimp only at hSw); go_simp; try with_reducible rfl⟩) (by assumption) ?_
              try simp only [Act.put, List.setIfInBounds_toArray, List.set_cons_zero, List.set_cons_succ]
              refine onlyL (i := 4) rfl (by kernel_rfl) (fun K hK => ?_)
              go_simp
              refine (duo_write HE.out HD5v.out hok.out (by omega) B (cb := 128) HR5v.out).mono ?_
              rintro e w6 ⟨R6, rfl, hD6, hG6⟩
              have hD6b := hD6
              have hrow6 := HR5v.out.keepW hG6.keeps (wr_not h5.1)
              refine (fun hHeld => hK _ _ hHeld ?_) ((hG6.keeps.cell hHeld (wr_not H9.out.1)))
              clear hK
              try simp only [Act.put, List.setIfInBounds_toArray, List.set_cons_zero, List.set_cons_succ]
              refine onlyL (i := 9) rfl (by kernel_rfl) (fun K hK => ?_)
              go_simp
              refine (duo_refwrite hD6 hok.out (by omega) B (cb := 128) hrow6).mono ?_
              rintro e w7 ⟨Q7, rfl, hD7, hG7⟩
              refine (fun hHeld => hK _ _ hHeld ?_) ((hG7.keeps.cell hHeld (wr_not H9.out.2)))
              clear hK
              try simp only [Act.put, List.setIfInBounds_toArray, List.set_cons_zero, List.set_cons_succ]
              refine onlyL (i := 10) rfl (by kernel_rfl) (fun K hK => ?_)
              go_simp
              refine (is_O (HES.out.keep hD7.mine.keeps) (d.write B FB).2 write_lt).mono ?_
              rintro e w8 ⟨rfl, hk8⟩
              refine (fun hHeld => hK _ _ hHeld ?_) ((hk8.cell hHeld (fun h => h)))
              clear hK
              try simp only [Act.put, List.setIfInBounds_toArray, List.set_cons_zero, List.set_cons_succ]
              refine takeL (i := 11) (v := _) rfl (by kernel_rfl) (by kernel_rfl) (by kernel_rfl) (fun _ _ _ h => h) (Or.inl ⟨by rfl, by intro w hSw; (try dsimp only at hSw); go_simp; try with_reducible rfl⟩) (by assumption) ?_
              try simp only [Act.put, List.setIfInBounds_toArray, List.set_cons_zero, List.set_cons_succ]
              refine wpAnyH_done (by kernel_rfl) ?_ _
              have HD8 := Lib.hid (hD7.nil hk8)
              clear hD6b hD6 hG6 hD7 hG7 hk8 hHeld hrow6
              go_wp2_with fail
              go_meet
              exact ⟨_, _, _, HD8, Lib.hid (hok.out.write B HR5b.out.2)⟩
            | true =>
              have hbt : AreB ((fillL C).drop 1) := fun x hx => fillL_bytes C x (List.mem_of_mem_drop hx)
              have hrt := HR5.out.tail 1 (by omega)
              rw [Addr.add_lit] at hrt
              have HR5b : Hid (Row .u8 w5 (some ⟨g5, 1, none⟩) 127 ((fillL C).drop 1) ∧ AreB ((fillL C).drop 1)) := Lib.hid ⟨hrt, hbt⟩
              clear hrt hbt HR5
              generalize (fillL C).drop 1 = FB at *
              go_upto_region 26 with fail
              refine wp_region_held_drew (S := fun w' => w'.cell? ⟨g9, 1, none⟩ = some (.int .i64 B)) (by kernel_rfl) e1 (fun hHeld => ?_)
              have HD5v := Lib.hid (HD5.out.nil (Keeps.refl Nil w5).drew)
              have HR5v := Lib.hid (HR5b.out.1.keep (Keeps.refl Nil w5).drew)
              clear HD5 e2 e1
              generalize w5.drew = v5 at *
              refine takeL (i := 0) (v := _) rfl (by kernel_rfl) (by kernel_rfl) (by kernel_rfl) (fun _ _ _ h => h) (Or.inl ⟨by rfl, by intro w hSw; (try dsimp only at hSw); go_simp; try with_reducible rfl⟩) (by assumption) ?_
              try simp only [Act.put, List.setIfInBounds_toArray, List.set_cons_zero, List.set_cons_succ]
              refine takeL (i := 1) (v := _) rfl (by kernel_rfl) (by kernel_rfl) (by kernel_rfl) (fun _ _ _ h => h) (Or.inl ⟨by rfl, by intro w hSw; (try dsimp only at hSw); go_simp; try with_reducible rfl⟩) (by assumption) ?_
              try simp only [Act.put, List.setIfInBounds_toArray, List.set_cons_zero, List.set_cons_succ]
              refine takeL (i := 2) (v := _) rfl (by kernel_rfl) (by kernel_rfl) (by kernel_rfl) (fun _ _ _ h => h) (Or.inl ⟨by rfl, by intro w hSw; (try dsimp only at hSw); go_simp; try with_reducible rfl⟩) (by assumption) ?_
              try simp only [Act.put, List.setIfInBounds_toArray, List.set_cons_zero, List.set_cons_succ]
              refine takeL (i := 3) (v := _) rfl (by kernel_rfl) (by kernel_rfl) (by kernel_rfl) (fun _ _ _ h => h) (Or.inl ⟨by rfl, by intro w hSw; (try dsimp only at hSw); go_simp; try with_reducible rfl⟩) (by assumption) ?_
              try simp only [Act.put, List.setIfInBounds_toArray, List.set_cons_zero, List.set_cons_succ]
              refine takeL (i := 5) (v := _) rfl (by kernel_rfl) (by kernel_rfl) (by kernel_rfl) (fun _ _ _ h => h) (Or.inl ⟨by rfl, by intro w hSw; (try dsimp only at hSw); go_simp; try with_reducible rfl⟩) (by assumption) ?_
              try simp only [Act.put, List.setIfInBounds_toArray, List.set_cons_zero, List.set_cons_succ]
              refine takeL (i := 6) (v := _) rfl (by kernel_rfl) (by kernel_rfl) (by kernel_rfl) (fun _ _ _ h => h) (Or.inl ⟨by rfl, by intro w hSw; (try dsimp only at hSw); go_simp; try with_reducible rfl⟩) (by assumption) ?_
              try simp only [Act.put, List.setIfInBounds_toArray, List.set_cons_zero, List.set_cons_succ]
              refine takeL (i := 7) (v := _) rfl (by kernel_rfl) (by kernel_rfl) (by kernel_rfl) (fun _ _ _ h => h) (Or.inl ⟨by rfl, by intro w hSw; (try dsimp only at hSw); go_simp; try with_reducible rfl⟩) (by assumption) ?_
              try simp only [Act.put, List.setIfInBounds_toArray, List.set_cons_zero, List.set_cons_succ]
              refine takeL (i := 8) (v := _) rfl (by kernel_rfl) (by kernel_rfl) (by kernel_rfl) (fun _ _ _ h => h) (Or.inl ⟨by rfl, by intro w hSw; (try dsimp only at hSw); go_simp; try with_reducible rfl⟩) (by assumption) ?_
              try simp only [Act.put, List.setIfInBounds_toArray, List.set_cons_zero, List.set_cons_succ]
              refine onlyL (i := 4) rfl (by kernel_rfl) (fun K hK => ?_)
              go_simp
              refine (duo_write HE.out HD5v.out hok.out (by omega) B (cb := 127) HR5v.out).mono ?_
              rintro e w6 ⟨R6, rfl, hD6, hG6⟩
              have hD6b := hD6
              have hrow6 := HR5v.out.keepW hG6.keeps (wr_not h5.1)
              refine (fun hHeld => hK _ _ hHeld ?_) ((hG6.keeps.cell hHeld (wr_not H9.out.1)))
              clear hK
              try simp only [Act.put, List.setIfInBounds_toArray, List.set_cons_zero, List.set_cons_succ]
              refine onlyL (i := 9) rfl (by kernel_rfl) (fun K hK => ?_)
              go_simp
              refine (duo_refwrite hD6 hok.out (by omega) B (cb := 127) hrow6).mono ?_
              rintro e w7 ⟨Q7, rfl, hD7, hG7⟩
              refine (fun hHeld => hK _ _ hHeld ?_) ((hG7.keeps.cell hHeld (wr_not H9.out.2)))
              clear hK
              try simp only [Act.put, List.setIfInBounds_toArray, List.set_cons_zero, List.set_cons_succ]
              refine onlyL (i := 10) rfl (by kernel_rfl) (fun K hK => ?_)
              go_simp
              refine (is_O (HES.out.keep hD7.mine.keeps) (d.write B FB).2 write_lt).mono ?_
              rintro e w8 ⟨rfl, hk8⟩
              refine (fun hHeld => hK _ _ hHeld ?_) ((hk8.cell hHeld (fun h => h)))
              clear hK
              try simp only [Act.put, List.setIfInBounds_toArray, List.set_cons_zero, List.set_cons_succ]
              refine takeL (i := 11) (v := _) rfl (by kernel_rfl) (by kernel_rfl) (by kernel_rfl) (fun _ _ _ h => h) (Or.inl ⟨by rfl, by intro w hSw; (try dsimp only at hSw); go_simp; try with_reducible rfl⟩) (by assumption) ?_
              try simp only [Act.put, List.setIfInBounds_toArray, List.set_cons_zero, List.set_cons_succ]
              refine wpAnyH_done (by kernel_rfl) ?_ _
              have HD8 := Lib.hid (hD7.nil hk8)
              clear hD6b hD6 hG6 hD7 hG7 hk8 hHeld hrow6
              go_wp2_with fail
              go_meet
              exact ⟨_, _, _, HD8, Lib.hid (hok.out.write B HR5b.out.2)⟩
          · skip
            go_wp2_with fail
            refine (filled_walk _ C).mono ?_
            rintro e w5 ⟨g5, rfl, hg5, hb5, hk5⟩
            replace e1 := hk5.cell e1 (fun h => h)
            replace e2 := hk5.cell e2 (fun h => h)
            have h5 := HDA.out.later hg5
            have HD5 := Lib.hid (HDA.out.nil hk5)
            have HR5 := Lib.hid (hb5.row8 (fillL_bytes C) (fillL_len C) (by omega))
            clear e0 e3 hb5 hk5 hg5 HDA
            go_upto_if 77 with fail
            generalize bits BinOp.and IntKind.i64 C 63 = V
            generalize hbo : (V == 7) = bo
            clear hbo
            cases bo with
            | false =>
              have HR5b : Hid (Row .u8 w5 (some ⟨g5, 0, none⟩) 128 (fillL C) ∧ AreB (fillL C)) := Lib.hid ⟨HR5.out, fillL_bytes C⟩
              generalize fillL C = FB at *
              go_upto_region 26 with fail
              refine wp_region_held_drew (S := fun w' => w'.cell? ⟨g9, 1, none⟩ = some (.int .i64 B)) (by kernel_rfl) e1 (fun hHeld => ?_)
              have HD5v := Lib.hid (HD5.out.nil (Keeps.refl Nil w5).drew)
              have HR5v := Lib.hid (HR5b.out.1.keep (Keeps.refl Nil w5).drew)
              clear HD5 e2 e1
              generalize w5.drew = v5 at *
              refine takeL (i := 0) (v := _) rfl (by kernel_rfl) (by kernel_rfl) (by kernel_rfl) (fun _ _ _ h => h) (Or.inl ⟨by rfl, by intro w hSw; (try dsimp only at hSw); go_simp; try with_reducible rfl⟩) (by assumption) ?_
              try simp only [Act.put, List.setIfInBounds_toArray, List.set_cons_zero, List.set_cons_succ]
              refine takeL (i := 1) (v := _) rfl (by kernel_rfl) (by kernel_rfl) (by kernel_rfl) (fun _ _ _ h => h) (Or.inl ⟨by rfl, by intro w hSw; (try dsimp only at hSw); go_simp; try with_reducible rfl⟩) (by assumption) ?_
              try simp only [Act.put, List.setIfInBounds_toArray, List.set_cons_zero, List.set_cons_succ]
              refine takeL (i := 2) (v := _) rfl (by kernel_rfl) (by kernel_rfl) (by kernel_rfl) (fun _ _ _ h => h) (Or.inl ⟨by rfl, by intro w hSw; (try dsimp only at hSw); go_simp; try with_reducible rfl⟩) (by assumption) ?_
              try simp only [Act.put, List.setIfInBounds_toArray, List.set_cons_zero, List.set_cons_succ]
              refine takeL (i := 3) (v := _) rfl (by kernel_rfl) (by kernel_rfl) (by kernel_rfl) (fun _ _ _ h => h) (Or.inl ⟨by rfl, by intro w hSw; (try dsimp only at hSw); go_simp; try with_reducible rfl⟩) (by assumption) ?_
              try simp only [Act.put, List.setIfInBounds_toArray, List.set_cons_zero, List.set_cons_succ]
              refine takeL (i := 5) (v := _) rfl (by kernel_rfl) (by kernel_rfl) (by kernel_rfl) (fun _ _ _ h => h) (Or.inl ⟨by rfl, by intro w hSw; (try dsimp only at hSw); go_simp; try with_reducible rfl⟩) (by assumption) ?_
              try simp only [Act.put, List.setIfInBounds_toArray, List.set_cons_zero, List.set_cons_succ]
              refine takeL (i := 6) (v := _) rfl (by kernel_rfl) (by kernel_rfl) (by kernel_rfl) (fun _ _ _ h => h) (Or.inl ⟨by rfl, by intro w hSw; (try dsimp only at hSw); go_simp; try with_reducible rfl⟩) (by assumption) ?_
              try simp only [Act.put, List.setIfInBounds_toArray, List.set_cons_zero, List.set_cons_succ]
              refine takeL (i := 7) (v := _) rfl (by kernel_rfl) (by kernel_rfl) (by kernel_rfl) (fun _ _ _ h => h) (Or.inl ⟨by rfl, by intro w hSw; (try dsimp only at hSw); go_simp; try with_reducible rfl⟩) (by assumption) ?_
              try simp only [Act.put, List.setIfInBounds_toArray, List.set_cons_zero, List.set_cons_succ]
              refine takeL (i := 8) (v := _) rfl (by kernel_rfl) (by kernel_rfl) (by kernel_rfl) (fun _ _ _ h => h) (Or.inl ⟨by rfl, by intro w hSw; (try dsimp only at hSw); go_simp; try with_reducible rfl⟩) (by assumption) ?_
              try simp only [Act.put, List.setIfInBounds_toArray, List.set_cons_zero, List.set_cons_succ]
              refine onlyL (i := 4) rfl (by kernel_rfl) (fun K hK => ?_)
              go_simp
              refine (duo_write HE.out HD5v.out hok.out (by omega) B (cb := 128) HR5v.out).mono ?_
              rintro e w6 ⟨R6, rfl, hD6, hG6⟩
              have hD6b := hD6
              have hrow6 := HR5v.out.keepW hG6.keeps (wr_not h5.1)
              refine (fun hHeld => hK _ _ hHeld ?_) ((hG6.keeps.cell hHeld (wr_not H9.out.1)))
              clear hK
              try simp only [Act.put, List.setIfInBounds_toArray, List.set_cons_zero, List.set_cons_succ]
              refine onlyL (i := 9) rfl (by kernel_rfl) (fun K hK => ?_)
              go_simp
              refine (duo_refwrite hD6 hok.out (by omega) B (cb := 128) hrow6).mono ?_
              rintro e w7 ⟨Q7, rfl, hD7, hG7⟩
              refine (fun hHeld => hK _ _ hHeld ?_) ((hG7.keeps.cell hHeld (wr_not H9.out.2)))
              clear hK
              try simp only [Act.put, List.setIfInBounds_toArray, List.set_cons_zero, List.set_cons_succ]
              refine onlyL (i := 10) rfl (by kernel_rfl) (fun K hK => ?_)
              go_simp
              refine (is_O (HES.out.keep hD7.mine.keeps) (d.write B FB).2 write_lt).mono ?_
              rintro e w8 ⟨rfl, hk8⟩
              refine (fun hHeld => hK _ _ hHeld ?_) ((hk8.cell hHeld (fun h => h)))
              clear hK
              try simp only [Act.put, List.setIfInBounds_toArray, List.set_cons_zero, List.set_cons_succ]
              refine takeL (i := 11) (v := _) rfl (by kernel_rfl) (by kernel_rfl) (by kernel_rfl) (fun _ _ _ h => h) (Or.inl ⟨by rfl, by intro w hSw; (try dsimp only at hSw); go_simp; try with_reducible rfl⟩) (by assumption) ?_
              try simp only [Act.put, List.setIfInBounds_toArray, List.set_cons_zero, List.set_cons_succ]
              refine wpAnyH_done (by kernel_rfl) ?_ _
              have HD8 := Lib.hid (hD7.nil hk8)
              clear hD6b hD6 hG6 hD7 hG7 hk8 hHeld hrow6
              go_wp2_with fail
              go_meet
              exact ⟨_, _, _, HD8, Lib.hid (hok.out.write B HR5b.out.2)⟩
            | true =>
              have hbt : AreB ((fillL C).drop 1) := fun x hx => fillL_bytes C x (List.mem_of_mem_drop hx)
              have hrt := HR5.out.tail 1 (by omega)
              rw [Addr.add_lit] at hrt
              have HR5b : Hid (Row .u8 w5 (some ⟨g5, 1, none⟩) 127 ((fillL C).drop 1) ∧ AreB ((fillL C).drop 1)) := Lib.hid ⟨hrt, hbt⟩
              clear hrt hbt HR5
              generalize (fillL C).drop 1 = FB at *
              go_upto_region 26 with fail
              refine wp_region_held_drew (S := fun w' => w'.cell? ⟨g9, 1, none⟩ = some (.int .i64 B)) (by kernel_rfl) e1 (fun hHeld => ?_)
              have HD5v := Lib.hid (HD5.out.nil (Keeps.refl Nil w5).drew)
              have HR5v := Lib.hid (HR5b.out.1.keep (Keeps.refl Nil w5).drew)
              clear HD5 e2 e1
              generalize w5.drew = v5 at *
              refine takeL (i := 0) (v := _) rfl (by kernel_rfl) (by kernel_rfl) (by kernel_rfl) (fun _ _ _ h => h) (Or.inl ⟨by rfl, by intro w hSw; (try dsimp only at hSw); go_simp; try with_reducible rfl⟩) (by assumption) ?_
              try simp only [Act.put, List.setIfInBounds_toArray, List.set_cons_zero, List.set_cons_succ]
              refine takeL (i := 1) (v := _) rfl (by kernel_rfl) (by kernel_rfl) (by kernel_rfl) (fun _ _ _ h => h) (Or.inl ⟨by rfl, by intro w hSw; (try dsimp only at hSw); go_simp; try with_reducible rfl⟩) (by assumption) ?_
              try simp only [Act.put, List.setIfInBounds_toArray, List.set_cons_zero, List.set_cons_succ]
              refine takeL (i := 2) (v := _) rfl (by kernel_rfl) (by kernel_rfl) (by kernel_rfl) (fun _ _ _ h => h) (Or.inl ⟨by rfl, by intro w hSw; (try dsimp only at hSw); go_simp; try with_reducible rfl⟩) (by assumption) ?_
              try simp only [Act.put, List.setIfInBounds_toArray, List.set_cons_zero, List.set_cons_succ]
              refine takeL (i := 3) (v := _) rfl (by kernel_rfl) (by kernel_rfl) (by kernel_rfl) (fun _ _ _ h => h) (Or.inl ⟨by rfl, by intro w hSw; (try dsimp only at hSw); go_simp; try with_reducible rfl⟩) (by assumption) ?_
              try simp only [Act.put, List.setIfInBounds_toArray, List.set_cons_zero, List.set_cons_succ]
              refine takeL (i := 5) (v := _) rfl (by kernel_rfl) (by kernel_rfl) (by kernel_rfl) (fun _ _ _ h => h) (Or.inl ⟨by rfl, by intro w hSw; (try dsimp only at hSw); go_simp; try with_reducible rfl⟩) (by assumption) ?_
              try simp only [Act.put, List.setIfInBounds_toArray, List.set_cons_zero, List.set_cons_succ]
              refine takeL (i := 6) (v := _) rfl (by kernel_rfl) (by kernel_rfl) (by kernel_rfl) (fun _ _ _ h => h) (Or.inl ⟨by rfl, by intro w hSw; (try dsimp only at hSw); go_simp; try with_reducible rfl⟩) (by assumption) ?_
              try simp only [Act.put, List.setIfInBounds_toArray, List.set_cons_zero, List.set_cons_succ]
              refine takeL (i := 7) (v := _) rfl (by kernel_rfl) (by kernel_rfl) (by kernel_rfl) (fun _ _ _ h => h) (Or.inl ⟨by rfl, by intro w hSw; (try dsimp only at hSw); go_simp; try with_reducible rfl⟩) (by assumption) ?_
              try simp only [Act.put, List.setIfInBounds_toArray, List.set_cons_zero, List.set_cons_succ]
              refine takeL (i := 8) (v := _) rfl (by kernel_rfl) (by kernel_rfl) (by kernel_rfl) (fun _ _ _ h => h) (Or.inl ⟨by rfl, by intro w hSw; (try dsimp only at hSw); go_simp; try with_reducible rfl⟩) (by assumption) ?_
              try simp only [Act.put, List.setIfInBounds_toArray, List.set_cons_zero, List.set_cons_succ]
              refine onlyL (i := 4) rfl (by kernel_rfl) (fun K hK => ?_)
              go_simp
              refine (duo_write HE.out HD5v.out hok.out (by omega) B (cb := 127) HR5v.out).mono ?_
              rintro e w6 ⟨R6, rfl, hD6, hG6⟩
              have hD6b := hD6
              have hrow6 := HR5v.out.keepW hG6.keeps (wr_not h5.1)
              refine (fun hHeld => hK _ _ hHeld ?_) ((hG6.keeps.cell hHeld (wr_not H9.out.1)))
              clear hK
              try simp only [Act.put, List.setIfInBounds_toArray, List.set_cons_zero, List.set_cons_succ]
              refine onlyL (i := 9) rfl (by kernel_rfl) (fun K hK => ?_)
              go_simp
              refine (duo_refwrite hD6 hok.out (by omega) B (cb := 127) hrow6).mono ?_
              rintro e w7 ⟨Q7, rfl, hD7, hG7⟩
              refine (fun hHeld => hK _ _ hHeld ?_) ((hG7.keeps.cell hHeld (wr_not H9.out.2)))
              clear hK
              try simp only [Act.put, List.setIfInBounds_toArray, List.set_cons_zero, List.set_cons_succ]
              refine onlyL (i := 10) rfl (by kernel_rfl) (fun K hK => ?_)
              go_simp
              refine (is_O (HES.out.keep hD7.mine.keeps) (d.write B FB).2 write_lt).mono ?_
              rintro e w8 ⟨rfl, hk8⟩
              refine (fun hHeld => hK _ _ hHeld ?_) ((hk8.cell hHeld (fun h => h)))
              clear hK
              try simp only [Act.put, List.setIfInBounds_toArray, List.set_cons_zero, List.set_cons_succ]
              refine takeL (i := 11) (v := _) rfl (by kernel_rfl) (by kernel_rfl) (by kernel_rfl) (fun _ _ _ h => h) (Or.inl ⟨by rfl, by intro w hSw; (try dsimp only at hSw); go_simp; try with_reducible rfl⟩) (by assumption) ?_
              try simp only [Act.put, List.setIfInBounds_toArray, List.set_cons_zero, List.set_cons_succ]
              refine wpAnyH_done (by kernel_rfl) ?_ _
              have HD8 := Lib.hid (hD7.nil hk8)
              clear hD6b hD6 hG6 hD7 hG7 hk8 hHeld hrow6
              go_wp2_with fail
              go_meet
              exact ⟨_, _, _, HD8, Lib.hid (hok.out.write B HR5b.out.2)⟩
          · skip
            go_wp2_with fail
            refine (filled_walk _ C).mono ?_
            rintro e w5 ⟨g5, rfl, hg5, hb5, hk5⟩
            replace e1 := hk5.cell e1 (fun h => h)
            replace e2 := hk5.cell e2 (fun h => h)
            have h5 := HDA.out.later hg5
            have HD5 := Lib.hid (HDA.out.nil hk5)
            have HR5 := Lib.hid (hb5.row8 (fillL_bytes C) (fillL_len C) (by omega))
            clear e0 e3 hb5 hk5 hg5 HDA
            go_upto_if 77 with fail
            generalize bits BinOp.and IntKind.i64 C 63 = V
            generalize hbo : (V == 7) = bo
            clear hbo
            cases bo with
            | false =>
              have HR5b : Hid (Row .u8 w5 (some ⟨g5, 0, none⟩) 128 (fillL C) ∧ AreB (fillL C)) := Lib.hid ⟨HR5.out, fillL_bytes C⟩
              generalize fillL C = FB at *
              go_upto_region 26 with fail
              refine wp_region_held_drew (S := fun w' => w'.cell? ⟨g9, 1, none⟩ = some (.int .i64 B)) (by kernel_rfl) e1 (fun hHeld => ?_)
              have HD5v := Lib.hid (HD5.out.nil (Keeps.refl Nil w5).drew)
              have HR5v := Lib.hid (HR5b.out.1.keep (Keeps.refl Nil w5).drew)
              clear HD5 e2 e1
              generalize w5.drew = v5 at *
              refine takeL (i := 0) (v := _) rfl (by kernel_rfl) (by kernel_rfl) (by kernel_rfl) (fun _ _ _ h => h) (Or.inl ⟨by rfl, by intro w hSw; (try dsimp only at hSw); go_simp; try with_reducible rfl⟩) (by assumption) ?_
              try simp only [Act.put, List.setIfInBounds_toArray, List.set_cons_zero, List.set_cons_succ]
              refine takeL (i := 1) (v := _) rfl (by kernel_rfl) (by kernel_rfl) (by kernel_rfl) (fun _ _ _ h => h) (Or.inl ⟨by rfl, by intro w hSw; (try dsimp only at hSw); go_simp; try with_reducible rfl⟩) (by assumption) ?_
              try simp only [Act.put, List.setIfInBounds_toArray, List.set_cons_zero, List.set_cons_succ]
              refine takeL (i := 2) (v := _) rfl (by kernel_rfl) (by kernel_rfl) (by kernel_rfl) (fun _ _ _ h => h) (Or.inl ⟨by rfl, by intro w hSw; (try dsimp only at hSw); go_simp; try with_reducible rfl⟩) (by assumption) ?_
              try simp only [Act.put, List.setIfInBounds_toArray, List.set_cons_zero, List.set_cons_succ]
              refine takeL (i := 3) (v := _) rfl (by kernel_rfl) (by kernel_rfl) (by kernel_rfl) (fun _ _ _ h => h) (Or.inl ⟨by rfl, by intro w hSw; (try dsimp only at hSw); go_simp; try with_reducible rfl⟩) (by assumption) ?_
              try simp only [Act.put, List.setIfInBounds_toArray, List.set_cons_zero, List.set_cons_succ]
              refine takeL (i := 5) (v := _) rfl (by kernel_rfl) (by kernel_rfl) (by kernel_rfl) (fun _ _ _ h => h) (Or.inl ⟨by rfl, by intro w hSw; (try dsimp only at hSw); go_simp; try with_reducible rfl⟩) (by assumption) ?_
              try simp only [Act.put, List.setIfInBounds_toArray, List.set_cons_zero, List.set_cons_succ]
              refine takeL (i := 6) (v := _) rfl (by kernel_rfl) (by kernel_rfl) (by kernel_rfl) (fun _ _ _ h => h) (Or.inl ⟨by rfl, by intro w hSw; (try dsimp only at hSw); go_simp; try with_reducible rfl⟩) (by assumption) ?_
              try simp only [Act.put, List.setIfInBounds_toArray, List.set_cons_zero, List.set_cons_succ]
              refine takeL (i := 7) (v := _) rfl (by kernel_rfl) (by kernel_rfl) (by kernel_rfl) (fun _ _ _ h => h) (Or.inl ⟨by rfl, by intro w hSw; (try dsimp only at hSw); go_simp; try with_reducible rfl⟩) (by assumption) ?_
              try simp only [Act.put, List.setIfInBounds_toArray, List.set_cons_zero, List.set_cons_succ]
              refine takeL (i := 8) (v := _) rfl (by kernel_rfl) (by kernel_rfl) (by kernel_rfl) (fun _ _ _ h => h) (Or.inl ⟨by rfl, by intro w hSw; (try dsimp only at hSw); go_simp; try with_reducible rfl⟩) (by assumption) ?_
              try simp only [Act.put, List.setIfInBounds_toArray, List.set_cons_zero, List.set_cons_succ]
              refine onlyL (i := 4) rfl (by kernel_rfl) (fun K hK => ?_)
              go_simp
              refine (duo_write HE.out HD5v.out hok.out (by omega) B (cb := 128) HR5v.out).mono ?_
              rintro e w6 ⟨R6, rfl, hD6, hG6⟩
              have hD6b := hD6
              have hrow6 := HR5v.out.keepW hG6.keeps (wr_not h5.1)
              refine (fun hHeld => hK _ _ hHeld ?_) ((hG6.keeps.cell hHeld (wr_not H9.out.1)))
              clear hK
              try simp only [Act.put, List.setIfInBounds_toArray, List.set_cons_zero, List.set_cons_succ]
              refine onlyL (i := 9) rfl (by kernel_rfl) (fun K hK => ?_)
              go_simp
              refine (duo_refwrite hD6 hok.out (by omega) B (cb := 128) hrow6).mono ?_
              rintro e w7 ⟨Q7, rfl, hD7, hG7⟩
              refine (fun hHeld => hK _ _ hHeld ?_) ((hG7.keeps.cell hHeld (wr_not H9.out.2)))
              clear hK
              try simp only [Act.put, List.setIfInBounds_toArray, List.set_cons_zero, List.set_cons_succ]
              refine onlyL (i := 10) rfl (by kernel_rfl) (fun K hK => ?_)
              go_simp
              refine (is_O (HES.out.keep hD7.mine.keeps) (d.write B FB).2 write_lt).mono ?_
              rintro e w8 ⟨rfl, hk8⟩
              refine (fun hHeld => hK _ _ hHeld ?_) ((hk8.cell hHeld (fun h => h)))
              clear hK
              try simp only [Act.put, List.setIfInBounds_toArray, List.set_cons_zero, List.set_cons_succ]
              refine takeL (i := 11) (v := _) rfl (by kernel_rfl) (by kernel_rfl) (by kernel_rfl) (fun _ _ _ h => h) (Or.inl ⟨by rfl, by intro w hSw; (try dsimp only at hSw); go_simp; try with_reducible rfl⟩) (by assumption) ?_
              try simp only [Act.put, List.setIfInBounds_toArray, List.set_cons_zero, List.set_cons_succ]
              refine wpAnyH_done (by kernel_rfl) ?_ _
              have HD8 := Lib.hid (hD7.nil hk8)
              clear hD6b hD6 hG6 hD7 hG7 hk8 hHeld hrow6
              go_wp2_with fail
              go_meet
              exact ⟨_, _, _, HD8, Lib.hid (hok.out.write B HR5b.out.2)⟩
            | true =>
              have hbt : AreB ((fillL C).drop 1) := fun x hx => fillL_bytes C x (List.mem_of_mem_drop hx)
              have hrt := HR5.out.tail 1 (by omega)
              rw [Addr.add_lit] at hrt
              have HR5b : Hid (Row .u8 w5 (some ⟨g5, 1, none⟩) 127 ((fillL C).drop 1) ∧ AreB ((fillL C).drop 1)) := Lib.hid ⟨hrt, hbt⟩
              clear hrt hbt HR5
              generalize (fillL C).drop 1 = FB at *
              go_upto_region 26 with fail
              refine wp_region_held_drew (S := fun w' => w'.cell? ⟨g9, 1, none⟩ = some (.int .i64 B)) (by kernel_rfl) e1 (fun hHeld => ?_)
              have HD5v := Lib.hid (HD5.out.nil (Keeps.refl Nil w5).drew)
              have HR5v := Lib.hid (HR5b.out.1.keep (Keeps.refl Nil w5).drew)
              clear HD5 e2 e1
              generalize w5.drew = v5 at *
              refine takeL (i := 0) (v := _) rfl (by kernel_rfl) (by kernel_rfl) (by kernel_rfl) (fun _ _ _ h => h) (Or.inl ⟨by rfl, by intro w hSw; (try dsimp only at hSw); go_simp; try with_reducible rfl⟩) (by assumption) ?_
              try simp only [Act.put, List.setIfInBounds_toArray, List.set_cons_zero, List.set_cons_succ]
              refine takeL (i := 1) (v := _) rfl (by kernel_rfl) (by kernel_rfl) (by kernel_rfl) (fun _ _ _ h => h) (Or.inl ⟨by rfl, by intro w hSw; (try dsimp only at hSw); go_simp; try with_reducible rfl⟩) (by assumption) ?_
              try simp only [Act.put, List.setIfInBounds_toArray, List.set_cons_zero, List.set_cons_succ]
              refine takeL (i := 2) (v := _) rfl (by kernel_rfl) (by kernel_rfl) (by kernel_rfl) (fun _ _ _ h => h) (Or.inl ⟨by rfl, by intro w hSw; (try dsimp only at hSw); go_simp; try with_reducible rfl⟩) (by assumption) ?_
              try simp only [Act.put, List.setIfInBounds_toArray, List.set_cons_zero, List.set_cons_succ]
              refine takeL (i := 3) (v := _) rfl (by kernel_rfl) (by kernel_rfl) (by kernel_rfl) (fun _ _ _ h => h) (Or.inl ⟨by rfl, by intro w hSw; (try dsimp only at hSw); go_simp; try with_reducible rfl⟩) (by assumption) ?_
              try simp only [Act.put, List.setIfInBounds_toArray, List.set_cons_zero, List.set_cons_succ]
              refine takeL (i := 5) (v := _) rfl (by kernel_rfl) (by kernel_rfl) (by kernel_rfl) (fun _ _ _ h => h) (Or.inl ⟨by rfl, by intro w hSw; (try dsimp only at hSw); go_simp; try with_reducible rfl⟩) (by assumption) ?_
              try simp only [Act.put, List.setIfInBounds_toArray, List.set_cons_zero, List.set_cons_succ]
              refine takeL (i := 6) (v := _) rfl (by kernel_rfl) (by kernel_rfl) (by kernel_rfl) (fun _ _ _ h => h) (Or.inl ⟨by rfl, by intro w hSw; (try dsimp only at hSw); go_simp; try with_reducible rfl⟩) (by assumption) ?_
              try simp only [Act.put, List.setIfInBounds_toArray, List.set_cons_zero, List.set_cons_succ]
              refine takeL (i := 7) (v := _) rfl (by kernel_rfl) (by kernel_rfl) (by kernel_rfl) (fun _ _ _ h => h) (Or.inl ⟨by rfl, by intro w hSw; (try dsimp only at hSw); go_simp; try with_reducible rfl⟩) (by assumption) ?_
              try simp only [Act.put, List.setIfInBounds_toArray, List.set_cons_zero, List.set_cons_succ]
              refine takeL (i := 8) (v := _) rfl (by kernel_rfl) (by kernel_rfl) (by kernel_rfl) (fun _ _ _ h => h) (Or.inl ⟨by rfl, by intro w hSw; (try dsimp only at hSw); go_simp; try with_reducible rfl⟩) (by assumption) ?_
              try simp only [Act.put, List.setIfInBounds_toArray, List.set_cons_zero, List.set_cons_succ]
              refine onlyL (i := 4) rfl (by kernel_rfl) (fun K hK => ?_)
              go_simp
              refine (duo_write HE.out HD5v.out hok.out (by omega) B (cb := 127) HR5v.out).mono ?_
              rintro e w6 ⟨R6, rfl, hD6, hG6⟩
              have hD6b := hD6
              have hrow6 := HR5v.out.keepW hG6.keeps (wr_not h5.1)
              refine (fun hHeld => hK _ _ hHeld ?_) ((hG6.keeps.cell hHeld (wr_not H9.out.1)))
              clear hK
              try simp only [Act.put, List.setIfInBounds_toArray, List.set_cons_zero, List.set_cons_succ]
              refine onlyL (i := 9) rfl (by kernel_rfl) (fun K hK => ?_)
              go_simp
              refine (duo_refwrite hD6 hok.out (by omega) B (cb := 127) hrow6).mono ?_
              rintro e w7 ⟨Q7, rfl, hD7, hG7⟩
              refine (fun hHeld => hK _ _ hHeld ?_) ((hG7.keeps.cell hHeld (wr_not H9.out.2)))
              clear hK
              try simp only [Act.put, List.setIfInBounds_toArray, List.set_cons_zero, List.set_cons_succ]
              refine onlyL (i := 10) rfl (by kernel_rfl) (fun K hK => ?_)
              go_simp
              refine (is_O (HES.out.keep hD7.mine.keeps) (d.write B FB).2 write_lt).mono ?_
              rintro e w8 ⟨rfl, hk8⟩
              refine (fun hHeld => hK _ _ hHeld ?_) ((hk8.cell hHeld (fun h => h)))
              clear hK
              try simp only [Act.put, List.setIfInBounds_toArray, List.set_cons_zero, List.set_cons_succ]
              refine takeL (i := 11) (v := _) rfl (by kernel_rfl) (by kernel_rfl) (by kernel_rfl) (fun _ _ _ h => h) (Or.inl ⟨by rfl, by intro w hSw; (try dsimp only at hSw); go_simp; try with_reducible rfl⟩) (by assumption) ?_
              try simp only [Act.put, List.setIfInBounds_toArray, List.set_cons_zero, List.set_cons_succ]
              refine wpAnyH_done (by kernel_rfl) ?_ _
              have HD8 := Lib.hid (hD7.nil hk8)
              clear hD6b hD6 hG6 hD7 hG7 hk8 hHeld hrow6
              go_wp2_with fail
              go_meet
              exact ⟨_, _, _, HD8, Lib.hid (hok.out.write B HR5b.out.2)⟩
          · skip
            go_wp2_with fail
            refine (duo_sync HE.out HDA.out hok.out (by omega)).mono ?_
            rintro e w5 ⟨rfl, hD5, _⟩
            have HD5 := Lib.hid hD5
            clear hD5 HDA
            go_wp2_with fail
            refine (duo_refsync HD5.out hok.out (by omega)).mono ?_
            rintro e w6 ⟨rfl, hD6, _⟩
            have HD6 := Lib.hid hD6
            have HI6 := Lib.hid (is_O (HES.out.keep hD6.mine.keeps) d.sync.2 sync_lt)
            clear hD6 HD5
            go_wp2_with fail
            refine HI6.out.mono ?_
            rintro e w7 ⟨rfl, hk7⟩
            have HD7 := Lib.hid (HD6.out.nil hk7)
            clear hk7 HD6
            go_wp2_with fail
            go_meet
            exact ⟨_, _, _, HD7, Lib.hid ((hok.out.sync (by omega)).mono (by omega))⟩
          · skip
            go_wp2_with fail
            refine (duo_fuse HDA.out B).mono ?_
            rintro e w5 ⟨rfl, hD5, hk5⟩
            have HD5 := Lib.hid hD5
            replace e1 := hk5.cell e1 (wr_not H9.out.1)
            clear hD5 HDA hk5 e0 e2 e3
            go_wp2_with fail
            refine (duo_reffuse HD5.out B).mono ?_
            rintro e w6 ⟨rfl, hD6, _⟩
            have HD6 := Lib.hid hD6
            clear hD6 HD5
            go_wp2_with fail
            go_meet
            exact ⟨_, _, _, HD6, Lib.hid ((hok.out.fuse wf1.2).mono (by omega))⟩
          · skip
            by_cases hll : ll ≤ 20
            · have hlli : ¬ ((20 : Int) < ll) := by omega
              go_wp2_with fail
              refine (duo_crash HDA.out hok.out (by omega) HRW.out.1 HRW.out.2.1 HRW.out.2.2).mono ?_
              rintro e w5 ⟨rfl, hD5, hk5⟩
              have HD5 := Lib.hid hD5
              replace e3 := hk5.cell e3 (wr_not H9.out.1)
              clear hD5 HDA hk5 e0 e2 e1
              go_wp2_with fail
              refine (duo_refcrash HD5.out hok.out (by omega) HRW.out.1).mono ?_
              rintro e w6 ⟨rfl, hD6, _⟩
              have HD6 := Lib.hid hD6
              clear hD6 HD5
              go_wp2_with fail
              go_meet
              exact ⟨_, _, _, HD6, Lib.hid ((hok.out.crash lr (by omega)).mono (by omega))⟩
            · have hlli : (20 : Int) < ll := by omega
              have HF := Lib.hid HDA.out.mine.keeps
              go_wp2_with fail
              go_ret
              exact ⟨rfl, HF.out⟩
          · skip
            go_wp2_with fail
            refine (duo_read HE.out HDA.out hok.out B).mono ?_
            rintro e w5 ⟨ar, cr, rfl, hor, hD5, hk5⟩
            replace e1 := hk5.cell e1 (fun h => h)
            have hRR := hor.row (areB_wf (hok.out.readV B))
            have HD5 := Lib.hid (And.intro hD5 hRR)
            clear hD5 HDA hk5 e0 e2 e3 hor hRR
            go_wp2_with fail
            refine (duo_refread HD5.out.1 hok.out (by omega) B).mono ?_
            rintro e w6 ⟨ax, cx, rfl, hox, hD6, hk6⟩
            have hRX := hox.row (areB_wf (hok.out.readV B))
            have HS6 := Lib.hid (sameBytes_walk (ca := cr) (cb := cx) (HD5.out.2.keep hk6) hRX)
            have HD6 := Lib.hid hD6
            rw [sameL_refl] at HS6
            clear hD6 HD5 hk6 hox hRX
            go_wp2_with fail
            refine HS6.out.mono ?_
            rintro e w7 ⟨rfl, hd7⟩
            have hD7 := HD6.out.nil (hd7.keeps Nil)
            have HI7 := Lib.hid (is_O (HES.out.keep hD7.mine.keeps) (d.readE B) readE_lt)
            have HD7 := Lib.hid hD7
            clear hd7 hD7 HD6 HS6
            go_wp2_with fail
            refine HI7.out.mono ?_
            rintro e w8 ⟨rfl, hk8⟩
            have HD8 := Lib.hid (HD7.out.nil hk8)
            clear hk8 HD7 HI7
            go_wp2_with fail
            go_meet
            exact ⟨_, _, _, HD8, Lib.hid (hok.out.mono (by omega))⟩
        case rest =>
          obtain ⟨R', Q', d', hD, hok'⟩ := hcut
          clear e0 e1 e2 e3 HDA hok hk7
          obtain ⟨at_, ct, tt, hA⟩ := hD.out.ref
          have f0 := hA.obj.cell 0 rfl
          have f2 := hA.obj.cell 2 rfl
          have ho := off_walk (hD.out.mine.is.keep0 (Keeps.refl Nil wc).drew)
          have hlt := hok'.out.size
          clear hA
          rcases Bool.eq_false_or_eq_true d'.off with hb | hb
          · rw [hb] at f2 ho
            clear hb
            go_upto_region 39 with fail
            refine wp_region_held_drew (S := fun w' => w'.cell? ⟨qd, 2, none⟩ = some (.bool true) ∧ w'.cell? ⟨qd, 0, none⟩ = some (.slice at_ d'.vs.length ct)) (by kernel_rfl) ⟨f2, f0⟩ (fun hHeld => ?_)
            have HDv := Lib.hid (hD.out.nil (Keeps.refl Nil wc).drew)
            have HO := Lib.hid ho
            clear hD f0 f2 ho
            generalize wc.drew = v5 at *
            refine takeL (i := 0) (v := _) rfl (by kernel_rfl) (by kernel_rfl) (by kernel_rfl) (fun _ _ _ h => h) (Or.inl ⟨by rfl, by intro w hSw; (try dsimp only at hSw); go_simp; try with_reducible rfl⟩) (by assumption) ?_
            try simp only [Act.put, List.setIfInBounds_toArray, List.set_cons_zero, List.set_cons_succ]
            refine takeL (i := 2) (v := _) rfl (by kernel_rfl) (by kernel_rfl) (by kernel_rfl) (fun _ _ _ h => h) (Or.inl ⟨by rfl, by intro w hSw; (try dsimp only at hSw); go_simp; try with_reducible rfl⟩) (by assumption) ?_
            try simp only [Act.put, List.setIfInBounds_toArray, List.set_cons_zero, List.set_cons_succ]
            refine takeL (i := 3) (v := _) rfl (by kernel_rfl) (by kernel_rfl) (by kernel_rfl) (fun _ _ _ h => h) (Or.inl ⟨by rfl, by intro w hSw; (try dsimp only at hSw); go_simp; try with_reducible rfl⟩) (by assumption) ?_
            try simp only [Act.put, List.setIfInBounds_toArray, List.set_cons_zero, List.set_cons_succ]
            refine takeL (i := 4) (v := _) rfl (by kernel_rfl) (by kernel_rfl) (by kernel_rfl) (fun _ _ _ h => h) (Or.inl ⟨by rfl, by intro w hSw; (try dsimp only at hSw); go_simp; try with_reducible rfl⟩) (by assumption) ?_
            try simp only [Act.put, List.setIfInBounds_toArray, List.set_cons_zero, List.set_cons_succ]
            refine takeL (i := 5) (v := _) rfl (by kernel_rfl) (by kernel_rfl) (by kernel_rfl) (fun _ _ _ h => h) (Or.inl ⟨by rfl, by intro w hSw; (try dsimp only at hSw); go_simp; try with_reducible rfl⟩) (by assumption) ?_
            try simp only [Act.put, List.setIfInBounds_toArray, List.set_cons_zero, List.set_cons_succ]
            refine onlyL (i := 1) rfl (by kernel_rfl) (fun K hK => ?_)
            go_simp
            refine HO.out.mono ?_
            rintro e w6 ⟨rfl, rfl⟩
            refine (fun hHeld => hK _ _ hHeld ?_) (hHeld)
            clear hK
            try simp only [Act.put, List.setIfInBounds_toArray, List.set_cons_zero, List.set_cons_succ]
            refine takeL (i := 6) (v := _) rfl (by kernel_rfl) (by kernel_rfl) (by kernel_rfl) (fun _ _ _ h => h) (Or.inl ⟨by rfl, by intro w hSw; (try dsimp only at hSw); go_simp; try with_reducible rfl⟩) (by assumption) ?_
            try simp only [Act.put, List.setIfInBounds_toArray, List.set_cons_zero, List.set_cons_succ]
            refine takeL (i := 7) (v := _) rfl (by kernel_rfl) (by kernel_rfl) (by kernel_rfl) (fun _ _ _ h => h) (Or.inl ⟨by rfl, by intro w hSw; (try dsimp only at hSw); go_simp; try with_reducible rfl⟩) (by assumption) ?_
            try simp only [Act.put, List.setIfInBounds_toArray, List.set_cons_zero, List.set_cons_succ]
            refine takeL (i := 8) (v := _) rfl (by kernel_rfl) (by kernel_rfl) (by kernel_rfl) (fun _ _ _ h => h) (Or.inl ⟨by rfl, by intro w hSw; (try dsimp only at hSw); go_simp; try with_reducible rfl⟩) (by assumption) ?_
            try simp only [Act.put, List.setIfInBounds_toArray, List.set_cons_zero, List.set_cons_succ]
            refine takeL (i := 10) (v := _) rfl (by kernel_rfl) (by kernel_rfl) (by kernel_rfl) (fun _ _ _ h => h) (Or.inl ⟨by rfl, by intro w hSw; (try dsimp only at hSw); go_simp; try with_reducible rfl⟩) (by assumption) ?_
            try simp only [Act.put, List.setIfInBounds_toArray, List.set_cons_zero, List.set_cons_succ]
            refine onlyL (i := 9) rfl (by kernel_rfl) (fun K hK => ?_)
            go_simp
            refine (image_walk HDv.out.mine.is hok'.out).mono ?_
            rintro e w7 ⟨ai, ci, rfl, hoi, hki, hfi⟩
            have hD7 := HDv.out.nil hki
            refine (fun hHeld => hK _ _ hHeld ?_) (⟨hki.cell hHeld.1 (fun h => h), hki.cell hHeld.2 (fun h => h)⟩)
            clear hK
            try simp only [Act.put, List.setIfInBounds_toArray, List.set_cons_zero, List.set_cons_succ]
            refine onlyL (i := 11) rfl (by kernel_rfl) (fun K hK => ?_)
            go_simp
            refine (refimage_walk hD7.ref hok'.out).mono ?_
            rintro e w8 ⟨ax, cx, rfl, hox, hkx, hfx⟩
            have hD8 := hD7.nil hkx
            have hrow8 := hoi.row (areB_wf hok'.out.image_bytes)
            have hrow8 := hrow8.keep hkx
            have hrowx := hox.row (areB_wf hok'.out.image_bytes)
            refine (fun hHeld => hK _ _ hHeld ?_) (⟨hkx.cell hHeld.1 (fun h => h), hkx.cell hHeld.2 (fun h => h)⟩)
            clear hK
            try simp only [Act.put, List.setIfInBounds_toArray, List.set_cons_zero, List.set_cons_succ]
            refine onlyL (i := 12) rfl (by kernel_rfl) (fun K hK => ?_)
            go_simp
            refine (sameBytes_walk (ca := ci) (cb := cx) hrow8 hrowx).mono ?_
            rw [sameL_refl]
            rintro e w9 ⟨rfl, hd9⟩
            have hk9 := hd9.keeps Nil
            have hD9 := hD8.nil hk9
            refine (fun hHeld => hK _ _ hHeld ?_) (⟨hk9.cell hHeld.1 (fun h => h), hk9.cell hHeld.2 (fun h => h)⟩)
            clear hK
            try simp only [Act.put, List.setIfInBounds_toArray, List.set_cons_zero, List.set_cons_succ]
            refine takeL (i := 13) (v := _) rfl (by kernel_rfl) (by kernel_rfl) (by kernel_rfl) (fun _ _ _ h => h) (Or.inl ⟨by rfl, by intro w hSw; (try dsimp only at hSw); go_simp; try with_reducible rfl⟩) (by assumption) ?_
            try simp only [Act.put, List.setIfInBounds_toArray, List.set_cons_zero, List.set_cons_succ]
            refine takeL (i := 14) (v := _) rfl (by kernel_rfl) (by kernel_rfl) (by kernel_rfl) (fun _ _ _ h => h) (Or.inl ⟨by rfl, by intro w hSw; (try dsimp only at hSw); go_simp; try with_reducible rfl⟩) (by assumption) ?_
            try simp only [Act.put, List.setIfInBounds_toArray, List.set_cons_zero, List.set_cons_succ]
            refine takeL (i := 15) (v := _) rfl (by kernel_rfl) (by kernel_rfl) (by kernel_rfl) (fun _ _ _ h => h) (Or.inl ⟨by rfl, by intro w hSw; (try dsimp only at hSw); go_simp; try with_reducible rfl⟩) (by assumption) ?_
            try simp only [Act.put, List.setIfInBounds_toArray, List.set_cons_zero, List.set_cons_succ]
            refine takeL (i := 16) (v := _) rfl (by kernel_rfl) (by kernel_rfl) (by kernel_rfl) (fun _ _ _ h => h) (Or.inl ⟨by rfl, by intro w hSw; (try dsimp only at hSw); go_simp; try with_reducible rfl⟩) (by assumption) ?_
            try simp only [Act.put, List.setIfInBounds_toArray, List.set_cons_zero, List.set_cons_succ]
            refine takeL (i := 18) (v := _) rfl (by kernel_rfl) (by kernel_rfl) (by kernel_rfl) (fun _ _ _ h => h) (Or.inl ⟨by rfl, by intro w hSw; (try dsimp only at hSw); go_simp; try with_reducible rfl⟩) (by assumption) ?_
            try simp only [Act.put, List.setIfInBounds_toArray, List.set_cons_zero, List.set_cons_succ]
            refine takeL (i := 19) (v := _) rfl (by kernel_rfl) (by kernel_rfl) (by kernel_rfl) (fun _ _ _ h => h) (Or.inl ⟨by rfl, by intro w hSw; (try dsimp only at hSw); go_simp; try with_reducible rfl⟩) (by assumption) ?_
            try simp only [Act.put, List.setIfInBounds_toArray, List.set_cons_zero, List.set_cons_succ]
            refine takeL (i := 20) (v := _) rfl (by kernel_rfl) (by kernel_rfl) (by kernel_rfl) (fun _ _ _ h => h) (Or.inl ⟨by rfl, by intro w hSw; (try dsimp only at hSw); go_simp; try with_reducible rfl⟩) (by assumption) ?_
            try simp only [Act.put, List.setIfInBounds_toArray, List.set_cons_zero, List.set_cons_succ]
            refine takeL (i := 21) (v := _) rfl (by kernel_rfl) (by kernel_rfl) (by kernel_rfl) (fun _ _ _ h => h) (Or.inl ⟨by rfl, by intro w hSw; (try dsimp only at hSw); go_simp; try with_reducible rfl⟩) (by assumption) ?_
            try simp only [Act.put, List.setIfInBounds_toArray, List.set_cons_zero, List.set_cons_succ]
            refine takeL (i := 22) (v := _) rfl (by kernel_rfl) (by kernel_rfl) (by kernel_rfl) (fun _ _ _ h => h) (Or.inl ⟨by rfl, by intro w hSw; (try dsimp only at hSw); go_simp; try with_reducible rfl⟩) (by assumption) ?_
            try simp only [Act.put, List.setIfInBounds_toArray, List.set_cons_zero, List.set_cons_succ]
            refine onlyL (i := 17) rfl (by kernel_rfl) (fun K hK => ?_)
            go_simp
            refine (size_walk hD9.mine.is).mono ?_
            rintro e w10 ⟨rfl, rfl⟩
            refine (fun hHeld => hK _ _ hHeld ?_) (hHeld)
            clear hK
            try simp only [Act.put, List.setIfInBounds_toArray, List.set_cons_zero, List.set_cons_succ]
            refine takeL (i := 23) (v := _) rfl (by kernel_rfl) (by kernel_rfl) (by kernel_rfl) (fun _ _ _ h => h) (Or.inl ⟨by rfl, by intro w hSw; (try dsimp only at hSw); go_simp; try with_reducible rfl⟩) (by assumption) ?_
            try simp only [Act.put, List.setIfInBounds_toArray, List.set_cons_zero, List.set_cons_succ]
            refine takeL (i := 24) (v := _) rfl (by kernel_rfl) (by kernel_rfl) (by kernel_rfl) (fun _ _ _ h => h) (Or.inl ⟨by rfl, by intro w hSw; (try dsimp only at hSw); go_simp; try with_reducible rfl⟩) (by assumption) ?_
            try simp only [Act.put, List.setIfInBounds_toArray, List.set_cons_zero, List.set_cons_succ]
            refine wpAnyH_done (by kernel_rfl) ?_ _
            have HD9 := Lib.hid hD9
            clear hD9 hd9 hk9 hrow8 hrowx hox hkx hfx hoi hki hfi hD7 hD8 hHeld
            go_wp2_with fail
            exact ⟨⟨i + 1, _, _, _, by go_num, by omega, HD9, hok'⟩, by first | (simp [intOf]; done) | (simp [intOf]; omega)⟩
          · rw [hb] at f2 ho
            clear hb
            go_upto_region 39 with fail
            refine wp_region_held_drew (S := fun w' => w'.cell? ⟨qd, 2, none⟩ = some (.bool false) ∧ w'.cell? ⟨qd, 0, none⟩ = some (.slice at_ d'.vs.length ct)) (by kernel_rfl) ⟨f2, f0⟩ (fun hHeld => ?_)
            have HDv := Lib.hid (hD.out.nil (Keeps.refl Nil wc).drew)
            have HO := Lib.hid ho
            clear hD f0 f2 ho
            generalize wc.drew = v5 at *
            refine takeL (i := 0) (v := _) rfl (by kernel_rfl) (by kernel_rfl) (by kernel_rfl) (fun _ _ _ h => h) (Or.inl ⟨by rfl, by intro w hSw; (try dsimp only at hSw); go_simp; try with_reducible rfl⟩) (by assumption) ?_
            try simp only [Act.put, List.setIfInBounds_toArray, List.set_cons_zero, List.set_cons_succ]
            refine takeL (i := 2) (v := _) rfl (by kernel_rfl) (by kernel_rfl) (by kernel_rfl) (fun _ _ _ h => h) (Or.inl ⟨by rfl, by intro w hSw; (try dsimp only at hSw); go_simp; try with_reducible rfl⟩) (by assumption) ?_
            try simp only [Act.put, List.setIfInBounds_toArray, List.set_cons_zero, List.set_cons_succ]
            refine takeL (i := 3) (v := _) rfl (by kernel_rfl) (by kernel_rfl) (by kernel_rfl) (fun _ _ _ h => h) (Or.inl ⟨by rfl, by intro w hSw; (try dsimp only at hSw); go_simp; try with_reducible rfl⟩) (by assumption) ?_
            try simp only [Act.put, List.setIfInBounds_toArray, List.set_cons_zero, List.set_cons_succ]
            refine takeL (i := 4) (v := _) rfl (by kernel_rfl) (by kernel_rfl) (by kernel_rfl) (fun _ _ _ h => h) (Or.inl ⟨by rfl, by intro w hSw; (try dsimp only at hSw); go_simp; try with_reducible rfl⟩) (by assumption) ?_
            try simp only [Act.put, List.setIfInBounds_toArray, List.set_cons_zero, List.set_cons_succ]
            refine takeL (i := 5) (v := _) rfl (by kernel_rfl) (by kernel_rfl) (by kernel_rfl) (fun _ _ _ h => h) (Or.inl ⟨by rfl, by intro w hSw; (try dsimp only at hSw); go_simp; try with_reducible rfl⟩) (by assumption) ?_
            try simp only [Act.put, List.setIfInBounds_toArray, List.set_cons_zero, List.set_cons_succ]
            refine onlyL (i := 1) rfl (by kernel_rfl) (fun K hK => ?_)
            go_simp
            refine HO.out.mono ?_
            rintro e w6 ⟨rfl, rfl⟩
            refine (fun hHeld => hK _ _ hHeld ?_) (hHeld)
            clear hK
            try simp only [Act.put, List.setIfInBounds_toArray, List.set_cons_zero, List.set_cons_succ]
            refine takeL (i := 6) (v := _) rfl (by kernel_rfl) (by kernel_rfl) (by kernel_rfl) (fun _ _ _ h => h) (Or.inl ⟨by rfl, by intro w hSw; (try dsimp only at hSw); go_simp; try with_reducible rfl⟩) (by assumption) ?_
            try simp only [Act.put, List.setIfInBounds_toArray, List.set_cons_zero, List.set_cons_succ]
            refine takeL (i := 7) (v := _) rfl (by kernel_rfl) (by kernel_rfl) (by kernel_rfl) (fun _ _ _ h => h) (Or.inl ⟨by rfl, by intro w hSw; (try dsimp only at hSw); go_simp; try with_reducible rfl⟩) (by assumption) ?_
            try simp only [Act.put, List.setIfInBounds_toArray, List.set_cons_zero, List.set_cons_succ]
            refine takeL (i := 8) (v := _) rfl (by kernel_rfl) (by kernel_rfl) (by kernel_rfl) (fun _ _ _ h => h) (Or.inl ⟨by rfl, by intro w hSw; (try dsimp only at hSw); go_simp; try with_reducible rfl⟩) (by assumption) ?_
            try simp only [Act.put, List.setIfInBounds_toArray, List.set_cons_zero, List.set_cons_succ]
            refine takeL (i := 10) (v := _) rfl (by kernel_rfl) (by kernel_rfl) (by kernel_rfl) (fun _ _ _ h => h) (Or.inl ⟨by rfl, by intro w hSw; (try dsimp only at hSw); go_simp; try with_reducible rfl⟩) (by assumption) ?_
            try simp only [Act.put, List.setIfInBounds_toArray, List.set_cons_zero, List.set_cons_succ]
            refine onlyL (i := 9) rfl (by kernel_rfl) (fun K hK => ?_)
            go_simp
            refine (image_walk HDv.out.mine.is hok'.out).mono ?_
            rintro e w7 ⟨ai, ci, rfl, hoi, hki, hfi⟩
            have hD7 := HDv.out.nil hki
            refine (fun hHeld => hK _ _ hHeld ?_) (⟨hki.cell hHeld.1 (fun h => h), hki.cell hHeld.2 (fun h => h)⟩)
            clear hK
            try simp only [Act.put, List.setIfInBounds_toArray, List.set_cons_zero, List.set_cons_succ]
            refine onlyL (i := 11) rfl (by kernel_rfl) (fun K hK => ?_)
            go_simp
            refine (refimage_walk hD7.ref hok'.out).mono ?_
            rintro e w8 ⟨ax, cx, rfl, hox, hkx, hfx⟩
            have hD8 := hD7.nil hkx
            have hrow8 := hoi.row (areB_wf hok'.out.image_bytes)
            have hrow8 := hrow8.keep hkx
            have hrowx := hox.row (areB_wf hok'.out.image_bytes)
            refine (fun hHeld => hK _ _ hHeld ?_) (⟨hkx.cell hHeld.1 (fun h => h), hkx.cell hHeld.2 (fun h => h)⟩)
            clear hK
            try simp only [Act.put, List.setIfInBounds_toArray, List.set_cons_zero, List.set_cons_succ]
            refine onlyL (i := 12) rfl (by kernel_rfl) (fun K hK => ?_)
            go_simp
            refine (sameBytes_walk (ca := ci) (cb := cx) hrow8 hrowx).mono ?_
            rw [sameL_refl]
            rintro e w9 ⟨rfl, hd9⟩
            have hk9 := hd9.keeps Nil
            have hD9 := hD8.nil hk9
            refine (fun hHeld => hK _ _ hHeld ?_) (⟨hk9.cell hHeld.1 (fun h => h), hk9.cell hHeld.2 (fun h => h)⟩)
            clear hK
            try simp only [Act.put, List.setIfInBounds_toArray, List.set_cons_zero, List.set_cons_succ]
            refine takeL (i := 13) (v := _) rfl (by kernel_rfl) (by kernel_rfl) (by kernel_rfl) (fun _ _ _ h => h) (Or.inl ⟨by rfl, by intro w hSw; (try dsimp only at hSw); go_simp; try with_reducible rfl⟩) (by assumption) ?_
            try simp only [Act.put, List.setIfInBounds_toArray, List.set_cons_zero, List.set_cons_succ]
            refine takeL (i := 14) (v := _) rfl (by kernel_rfl) (by kernel_rfl) (by kernel_rfl) (fun _ _ _ h => h) (Or.inl ⟨by rfl, by intro w hSw; (try dsimp only at hSw); go_simp; try with_reducible rfl⟩) (by assumption) ?_
            try simp only [Act.put, List.setIfInBounds_toArray, List.set_cons_zero, List.set_cons_succ]
            refine takeL (i := 15) (v := _) rfl (by kernel_rfl) (by kernel_rfl) (by kernel_rfl) (fun _ _ _ h => h) (Or.inl ⟨by rfl, by intro w hSw; (try dsimp only at hSw); go_simp; try with_reducible rfl⟩) (by assumption) ?_
            try simp only [Act.put, List.setIfInBounds_toArray, List.set_cons_zero, List.set_cons_succ]
            refine takeL (i := 16) (v := _) rfl (by kernel_rfl) (by kernel_rfl) (by kernel_rfl) (fun _ _ _ h => h) (Or.inl ⟨by rfl, by intro w hSw; (try dsimp only at hSw); go_simp; try with_reducible rfl⟩) (by assumption) ?_
            try simp only [Act.put, List.setIfInBounds_toArray, List.set_cons_zero, List.set_cons_succ]
            refine takeL (i := 18) (v := _) rfl (by kernel_rfl) (by kernel_rfl) (by kernel_rfl) (fun _ _ _ h => h) (Or.inl ⟨by rfl, by intro w hSw; (try dsimp only at hSw); go_simp; try with_reducible rfl⟩) (by assumption) ?_
            try simp only [Act.put, List.setIfInBounds_toArray, List.set_cons_zero, List.set_cons_succ]
            refine takeL (i := 19) (v := _) rfl (by kernel_rfl) (by kernel_rfl) (by kernel_rfl) (fun _ _ _ h => h) (Or.inl ⟨by rfl, by intro w hSw; (try dsimp only at hSw); go_simp; try with_reducible rfl⟩) (by assumption) ?_
            try simp only [Act.put, List.setIfInBounds_toArray, List.set_cons_zero, List.set_cons_succ]
            refine takeL (i := 20) (v := _) rfl (by kernel_rfl) (by kernel_rfl) (by kernel_rfl) (fun _ _ _ h => h) (Or.inl ⟨by rfl, by intro w hSw; (try dsimp only at hSw); go_simp; try with_reducible rfl⟩) (by assumption) ?_
            try simp only [Act.put, List.setIfInBounds_toArray, List.set_cons_zero, List.set_cons_succ]
            refine takeL (i := 21) (v := _) rfl (by kernel_rfl) (by kernel_rfl) (by kernel_rfl) (fun _ _ _ h => h) (Or.inl ⟨by rfl, by intro w hSw; (try dsimp only at hSw); go_simp; try with_reducible rfl⟩) (by assumption) ?_
            try simp only [Act.put, List.setIfInBounds_toArray, List.set_cons_zero, List.set_cons_succ]
            refine takeL (i := 22) (v := _) rfl (by kernel_rfl) (by kernel_rfl) (by kernel_rfl) (fun _ _ _ h => h) (Or.inl ⟨by rfl, by intro w hSw; (try dsimp only at hSw); go_simp; try with_reducible rfl⟩) (by assumption) ?_
            try simp only [Act.put, List.setIfInBounds_toArray, List.set_cons_zero, List.set_cons_succ]
            refine onlyL (i := 17) rfl (by kernel_rfl) (fun K hK => ?_)
            go_simp
            refine (size_walk hD9.mine.is).mono ?_
            rintro e w10 ⟨rfl, rfl⟩
            refine (fun hHeld => hK _ _ hHeld ?_) (hHeld)
            clear hK
            try simp only [Act.put, List.setIfInBounds_toArray, List.set_cons_zero, List.set_cons_succ]
            refine takeL (i := 23) (v := _) rfl (by kernel_rfl) (by kernel_rfl) (by kernel_rfl) (fun _ _ _ h => h) (Or.inl ⟨by rfl, by intro w hSw; (try dsimp only at hSw); go_simp; try with_reducible rfl⟩) (by assumption) ?_
            try simp only [Act.put, List.setIfInBounds_toArray, List.set_cons_zero, List.set_cons_succ]
            refine takeL (i := 24) (v := _) rfl (by kernel_rfl) (by kernel_rfl) (by kernel_rfl) (fun _ _ _ h => h) (Or.inl ⟨by rfl, by intro w hSw; (try dsimp only at hSw); go_simp; try with_reducible rfl⟩) (by assumption) ?_
            try simp only [Act.put, List.setIfInBounds_toArray, List.set_cons_zero, List.set_cons_succ]
            refine wpAnyH_done (by kernel_rfl) ?_ _
            have HD9 := Lib.hid hD9
            clear hD9 hd9 hk9 hrow8 hrowx hox hkx hfx hoi hki hfi hD7 hD8 hHeld
            go_wp2_with fail
            exact ⟨⟨i + 1, _, _, _, by go_num, by omega, HD9, hok'⟩, by first | (simp [intOf]; done) | (simp [intOf]; omega)⟩
      · obtain rfl : i = len1 := by omega
        have hii : ¬ ((i : Int) < i) := by omega
        have HF := Lib.hid hD.out.mine.keeps
        clear hD hok
        go_wp2_with fail
        go_ret
        exact ⟨rfl, HF.out⟩
  · have hl1i : (60 : Int) < len1 := by omega
    go_enter Tryd.func5, Tryd.ntmps5
    go_wp2_with fail
    refine HFI.out.mono ?_
    rintro e w1 ⟨rfl, hk1⟩
    have HK1 := Lib.hid hk1
    clear hk1
    go_wp2_with fail
    go_ret
    exact ⟨rfl, HK1.out⟩
end Go.Proofs.YtkefbgkdkmkghaaDoor
