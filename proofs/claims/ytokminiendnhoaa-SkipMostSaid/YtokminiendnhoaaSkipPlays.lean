/-
  Chapter 14: SkipPlays' walk.
-/
import Derived.Test.YtokminiendnhoaaSkipTwo
import Derived.Test.YtokminiendnhoaaMake
import Derived.Test.YtokminiendnhoaaNumber
import Derived.Test.YtokminiendnhoaaInts
namespace Go.Proofs.Ytokminiendnhoaa
set_option linter.unusedSimpArgs false
set_option linter.unusedVariables false
open Go.RowKit

theorem Try.zeroKeyV : ∃ zk : List Value, zk.length = 32 ∧ ∀ w, (zeroValue 37).run Try.prog w = .ok (.agg zk.toArray) w := ⟨List.replicate 32 (.int .u8 0), rfl, fun w => by kernel_rfl⟩
theorem keyV_len {l : List Int} (h : l.length = 32) : (byteV l).length = 32 := by simp [byteV, h]
set_option maxRecDepth 100000 in
set_option maxHeartbeats 3200000 in
theorem skipPlays_walk (a0 : Option Addr) (len0 cap0 : Nat) (z : Nat → Nat → Int) (w : World) (hz : IsInts 4 w a0 len0 z) :
    Calls Try.prog 6 #[.slice a0 len0 cap0] w fun e w' => e = .returned (.bool true) ∧ Keeps Nil w w' := by
  have HZ := Lib.hid hz
  have hm0 := hz.most
  have HFI := Lib.hid (skipfirst_walk w)
  clear hz
  by_cases hlen : len0 ≤ 120
  · have hl0i : ¬ ((120 : Int) < len0) := by omega
    go_enter Try.func6, Try.ntmps6
    go_wp2_with fail
    refine HFI.out.mono ?_
    rintro e w1 ⟨rfl, hk1⟩
    have HK1 := Lib.hid hk1
    clear hk1
    obtain ⟨wA, gs, hgs, hbs, hwA, hkA⟩ := alloc1 w1 [.slice none 0 0] 34
    obtain ⟨wB, gx, hgx, hbx, hwB, hkB⟩ := alloc1 wA [.slice none 0 0] 49
    have HWA : Hid (w1.alloc (.cells #[.slice none 0 0] 34) = wA) := Lib.hid hwA.symm
    have HWB : Hid (wA.alloc (.cells #[.slice none 0 0] 49) = wB) := Lib.hid hwB.symm
    have HGS := Lib.hid hgs.symm
    have hgx2 : w1.heap.size + 1 = gx := by rw [hgx, hwA]; simp
    have HGX := Lib.hid hgx2
    have hlt := hbs.lt
    have hKA := HK1.out.trans hkA
    have HT : Hid (Two2 w wB gs gx none 0 [] none 0 []) := Lib.hid ⟨⟨hbs.keep0 hkB, Own.nil _ _ _, blkOf_none _, fun e he => by cases he⟩, ⟨hbx, ⟨Nat.le_refl _, by omega, .inl ⟨rfl, rfl, rfl⟩⟩, blkOf_none _, fun e he => by cases he⟩, hKA.trans hkB, fun k hk => by
        rcases hk with rfl | hk
        · rw [hgs]; exact HK1.out.size
        · exact (blkOf_none _ hk).elim, fun k hk => by
        rcases hk with rfl | hk
        · rw [hgx]; exact hKA.size
        · exact (blkOf_none _ hk).elim, fun k h1 h2 => by
        rcases h1 with h1 | h1
        · rcases h2 with h2 | h2
          · omega
          · exact (blkOf_none _ h2).elim
        · exact (blkOf_none _ h1).elim⟩
    clear hgs hbs hwA hkA hgx hbx hwB hkB hlt hKA
    clear hgx2
    go_upto_region 8 with fail
    rw [HWA.out, HWB.out, HGX.out, HGS.out]
    go_wp2_with fail
    go_loopw [6, 7, 8, 9, 10, 11, 12, 13] (fun x _ _ _ _ _ _ _ wr => ∃ (i : Nat) (a : Option Addr) (c : Nat) (a2 : Option Addr) (c2 : Nat) (l : List Ent), x = .int .i64 i ∧ i ≤ len0 ∧ Hid (Two2 w wr gs gx a c l a2 c2 l) ∧ Hid (ApartE l ∧ l.length ≤ 40)) (fun x _ _ _ _ _ _ _ _ => len0 - (intOf x).toNat)
    case atStart => exact ⟨0, none, 0, none, 0, [], rfl, Nat.zero_le _, HT, Lib.hid ⟨List.Pairwise.nil, by simp⟩⟩
    case round =>
      obtain ⟨i, a, c, a2, c2, l, rfl, hi, hT, hA⟩ := hrel
      clear HT
      by_cases hil : i < len0
      · have hi1 : (i : Int) < len0 := by omega
        have hi0 : (0 : Int) ≤ i := by omega
        have hzk := HZ.out.keep hT.out.keeps
        obtain ⟨b, off, ha, hbl, hcell⟩ := hzk.cell (by omega)
        subst ha
        have c0 := hcell i 0 hil (by omega)
        have c1 := hcell i 1 hil (by omega)
        have c2' := hcell i 2 hil (by omega)
        have c3 := hcell i 3 hil (by omega)
        rw [Nat.add_zero] at c0
        rw [← Nat.add_assoc] at c1 c2' c3
        have wf0 := hzk.wf i 0 hil (by omega)
        have wf1 := hzk.wf i 1 hil (by omega)
        have wf2 := hzk.wf i 2 hil (by omega)
        have wf3 := hzk.wf i 3 hil (by omega)
        clear hcell hzk
        generalize z i 0 = K at *
        generalize z i 1 = H at *
        generalize z i 2 = N at *
        generalize z i 3 = Y at *
        obtain ⟨kd, hkd⟩ : ∃ kd, kd = K % 5 := ⟨_, rfl⟩
        have hk5 : kd = 3 ∨ kd = 4 ∨ (kd = 0 ∨ kd = 1 ∨ kd = 2) := by omega
        have HNK := Lib.hid (fun w => number_walk K 5 w wf0.1 wf0.2 (by omega) (by omega))
        rw [← hkd] at HNK
        obtain ⟨hq, hhq⟩ := Int.eq_ofNat_of_zero_le (Int.emod_nonneg H (b := 4) (by omega))
        have HNH := Lib.hid (fun w => number_walk H 4 w wf1.1 wf1.2 (by omega) (by omega))
        obtain ⟨nn, hnn⟩ := Int.eq_ofNat_of_zero_le (Int.emod_nonneg N (b := 30) (by omega))
        have hn30 : nn < 30 := by have := Int.emod_lt_of_pos N (b := 30) (by omega); omega
        have HNN := Lib.hid (fun w => number_walk N 30 w wf2.1 wf2.2 (by omega) (by omega))
        rw [hnn] at HNN
        have hq4 : H % 4 < 4 := Int.emod_lt_of_pos H (by omega)
        rw [hhq] at hq4 HNH
        have HKY := Lib.hid (fun w => show Calls Try.prog 18 #[.int .i64 (hq : Int)] w (fun e w' => e = .returned (.agg (byteV (keyOf (hq : Int))).toArray) ∧ Keeps Nil w w') from key_walk (hq : Int) w (by omega) (by omega))
        have hDl := keyOf_len (hq : Int)
        have hDb := keyOf_bytes (hq : Int)
        generalize keyOf (hq : Int) = D at *
        have HD := Lib.hid (And.intro (And.intro hDl hDb) (keyV_len hDl))
        have HDI : Hid ((Try.prog.info? 37).map (·.size) = some (byteV D).length) := Lib.hid (by rw [keyV_len hDl]; exact Try.infoKey)
        clear hkd hhq hnn hq4 hDl hDb wf0 wf1 wf2
        obtain ⟨zk, hzl, hzv⟩ := Try.zeroKeyV
        have HZL := Lib.hid hzl
        clear hzl
        go_wp2_with fail
        refine (HNH.out _).mono ?_
        rintro e w3 ⟨rfl, rfl⟩
        go_wp2_with fail
        refine (HKY.out _).mono ?_
        rintro e w4 ⟨rfl, hk4⟩
        have hkz := (Keeps.refl Nil w4).alloc (.cells zk.toArray 37)
        have HK4 := Lib.hid (And.intro hk4 hkz)
        clear hkz hk4 c1
        go_wp2_with (refine wpl_store rfl 37 _ _ rfl w4.heap.size rfl (byteV D) rfl (Blk.new w4 zk _) (by rw [HZL.out]; exact HD.out.2) HDI.out oneCell_byteV ?_)
        intro w5 hb5 hk5 _
        have hk45 : Keeps Nil w4 w5 := HK4.out.2.step hk5 (fun k hk => .inr (by rw [show k = w4.heap.size from hk]; exact Nat.le_refl _))
        have hk35 := HK4.out.1.trans hk45
        have hT5 := hT.out.nil hk35
        have h7 := (hT.out.nil HK4.out.1).later (Nat.le_refl _)
        replace c0 := hk35.cell c0 (fun h => h)
        replace c2' := hk35.cell c2' (fun h => h)
        replace c3 := hk35.cell c3 (fun h => h)
        have HT5 := Lib.hid hT5
        obtain ⟨g7, hg7⟩ : ∃ g7, w4.heap.size = g7 := ⟨_, rfl⟩
        rw [hg7] at hb5 h7 ⊢
        have HB7 := Lib.hid (And.intro hb5 h7)
        have hbw := Nat.lt_of_lt_of_le hbl HK4.out.1.size
        have hb7 : b ≠ g7 := by omega
        clear hk45 hk35 hT5 hk5 hb5 h7 hT hg7 hbl hbw HNH HKY
        have hwrap : IntKind.u32.wrap (nn : Int) = (nn : Int) := IntWalk.u32_in _ (by omega)
        go_wp2_with fail
        refine (HNN.out _).mono ?_
        rintro e w6 ⟨rfl, rfl⟩
        go_wp2_with fail
        refine (HNK.out _).mono ?_
        rintro e w6 ⟨rfl, rfl⟩
        go_upto_block 2 with fail
        go_cut [9] from 21 to 100 (fun _ wx => ∃ (a : Option Addr) (c : Nat) (a2 : Option Addr) (c2 : Nat) (l : List Ent), Hid (Two2 w wx gs gx a c l a2 c2 l) ∧ Hid (ApartE l ∧ l.length ≤ 40) ∧ Hid (Blk wx g7 (byteV D) 37 ∧ ¬ stOf gs a g7 ∧ ¬ stOf gx a2 g7))
        case first =>
          rcases hk5 with rfl | rfl | hk5
          · go_upto_region 18 with fail
            refine wp_region_held_drew (S := fun w' => w'.rangeAt g7 0 (byteV D)) (by kernel_rfl) HB7.out.1.range0 (fun hHeld => ?_)
            have hTv := HT5.out.nil (Keeps.refl Nil w5).drew
            have hBv := HB7.out.1.keep0 (Keeps.refl Nil w5).drew
            have hUK := Try.undKey
            have hIK := HDI.out
            have hb7l := hBv.lt
            clear HT5 c0 c2' c3
            generalize w5.drew = v0 at *
            refine takeL (i := 0) (v := _) rfl (by kernel_rfl) (by kernel_rfl) (by kernel_rfl) (fun _ _ _ h => h) (yieldsIf_load_mid (by rfl) 37 _ rfl g7 0 rfl (byteV D) _ (fun w hSw => hSw) hUK rfl hIK) (by assumption) ?_
            try simp only [Act.put, List.setIfInBounds_toArray, List.set_cons_zero, List.set_cons_succ]
            refine takeL (i := 1) (v := _) rfl (by kernel_rfl) (by kernel_rfl) (by kernel_rfl) (fun _ _ _ h => h) (Or.inl ⟨by rfl, by intro w hSw; (try dsimp only at hSw); go_simp; try with_reducible rfl⟩) (by assumption) ?_
            try simp only [Act.put, List.setIfInBounds_toArray, List.set_cons_zero, List.set_cons_succ]
            refine takeL (i := 3) (v := _) rfl (by kernel_rfl) (by kernel_rfl) (by kernel_rfl) (fun _ _ _ h => h) (yieldsIf_load_mid (by rfl) 37 _ rfl g7 0 rfl (byteV D) _ (fun w hSw => hSw) hUK rfl hIK) (by assumption) ?_
            try simp only [Act.put, List.setIfInBounds_toArray, List.set_cons_zero, List.set_cons_succ]
            refine takeL (i := 4) (v := _) rfl (by kernel_rfl) (by kernel_rfl) (by kernel_rfl) (fun _ _ _ h => h) (Or.inl ⟨by rfl, by intro w hSw; (try dsimp only at hSw); go_simp; try with_reducible rfl⟩) (by assumption) ?_
            try simp only [Act.put, List.setIfInBounds_toArray, List.set_cons_zero, List.set_cons_succ]
            refine onlyL (i := 2) rfl (by kernel_rfl) (fun K hK => ?_)
            go_simp
            obtain ⟨hb, hhb⟩ : ∃ hb, hasE l D nn = hb := ⟨_, rfl⟩
            refine (two_take hTv D nn HD.out.1.1 HD.out.1.2).mono ?_
            rw [hhb]
            rintro e w6 ⟨rfl, hT6, hk6⟩
            have hB6 := hBv.keep hk6 HB7.out.2.1
            have hs6 := hk6.size
            refine (fun hHeld => hK _ _ hHeld ?_) (hB6.range0)
            clear hK
            try simp only [Act.put, List.setIfInBounds_toArray, List.set_cons_zero, List.set_cons_succ]
            refine onlyL (i := 5) rfl (by kernel_rfl) (fun K hK => ?_)
            go_simp
            refine (two_reftake hT6 (by have := hA.out.2; omega) D nn HD.out.1.1 HD.out.1.2).mono ?_
            rw [hhb]
            rintro e w7 ⟨a7, c7, rfl, hT7, hk7, hf7⟩
            have hn7 := hf7 g7 (by omega) HB7.out.2.2
            have hB7' := hB6.keep hk7 (fun e => HB7.out.2.2 (.inl e))
            refine (fun hHeld => hK _ _ hHeld ?_) (hB7'.range0)
            clear hK
            try simp only [Act.put, List.setIfInBounds_toArray, List.set_cons_zero, List.set_cons_succ]
            refine takeL (i := 6) (v := _) rfl (by kernel_rfl) (by kernel_rfl) (by kernel_rfl) (fun _ _ _ h => h) (Or.inl ⟨by rfl, by intro w hSw; (try dsimp only at hSw); go_simp; try with_reducible rfl⟩) (by assumption) ?_
            try simp only [Act.put, List.setIfInBounds_toArray, List.set_cons_zero, List.set_cons_succ]
            refine wpAnyH_done (by kernel_rfl) ?_ _
            clear hHeld hB6 hBv hTv hT6 hhb
            have HF := Lib.hid (And.intro hT7 (And.intro hB7' hn7))
            clear hT7 hB7' hn7 hk7 hk6 hf7
            go_wp2_with fail
            go_meet
            exact ⟨_, _, _, _, _, Lib.hid HF.out.1, Lib.hid ⟨takeE_apart hA.out.1 D nn, Nat.le_trans (takeE_length l D nn) hA.out.2⟩, Lib.hid ⟨HF.out.2.1, HB7.out.2.1, HF.out.2.2⟩⟩
          · clear c0 c2' c3
            go_wp2_with fail
            refine (all_walk HT5.out.st (by have := hA.out.2; omega)).mono ?_
            rintro e w6 ⟨ar, cr, rfl, hor, hkr, hfr⟩
            have hT6 := HT5.out.nil hkr
            have HL := Lib.hid (two_load hT6 hA.out.1 hA.out.2 hor (fun e => by have := hfr gs e; have := HT5.out.st.obj.lt; omega))
            have HB6 := Lib.hid (HB7.out.1.keep0 hkr)
            clear hT6 hor hkr hfr HT5
            go_wp2_with fail
            refine HL.out.mono ?_
            rintro e w7 ⟨a7, c7, rfl, hT7, hk7, hf7⟩
            have hB := HB6.out.keep hk7 HB7.out.2.1
            have hn := hf7 g7 HB6.out.lt HB7.out.2.1
            have HF := Lib.hid (And.intro hT7 (And.intro hB hn))
            clear hT7 hk7 hf7 hB hn HL
            go_wp2_with fail
            go_meet
            exact ⟨_, _, _, _, _, Lib.hid HF.out.1, hA, Lib.hid ⟨HF.out.2.1, HF.out.2.2, HB7.out.2.2⟩⟩
          · have hX : (kd == 3) = false ∧ (kd == 4) = false := by rcases hk5 with rfl | rfl | rfl <;> exact ⟨rfl, rfl⟩
            obtain ⟨hX3, hX4⟩ := hX
            have hkn : ¬ kd = 3 ∧ ¬ kd = 4 := by omega
            obtain ⟨hkn3, hkn4⟩ := hkn
            have HKZ := Lib.hid (fun w => show Calls Try.prog 18 #[.int .i64 Y] w (fun e w' => e = .returned (.agg (byteV (keyOf Y)).toArray) ∧ Keeps Nil w w') from key_walk Y w wf3.1 wf3.2)
            have hEl := keyOf_len Y
            have hEb := keyOf_bytes Y
            generalize keyOf Y = E at *
            have HEE := Lib.hid (And.intro (And.intro hEl hEb) (keyV_len hEl))
            have HEI : Hid ((Try.prog.info? 37).map (·.size) = some (byteV E).length) := Lib.hid (by rw [keyV_len hEl]; exact Try.infoKey)
            have HWE : Hid (WfE (D, E, (nn : Int))) := Lib.hid ⟨HD.out.1.1, hEl, HD.out.1.2, hEb, by simp, by simp; omega⟩
            clear hEl hEb hk5 c0 c2'
            go_wp2_with fail
            refine (HKZ.out _).mono ?_
            rintro e w6 ⟨rfl, hk6⟩
            have hkz6 := (Keeps.refl Nil w6).alloc (.cells zk.toArray 37)
            have HK6 := Lib.hid (And.intro hk6 hkz6)
            clear hkz6 hk6 c3
            go_wp2_with (first
              | (refine wpl_store rfl 37 _ _ rfl w6.heap.size rfl (byteV E) rfl (Blk.new w6 zk _) (by rw [HZL.out]; exact HEE.out.2) HEI.out oneCell_byteV ?_))
            intro w7 hb7' hk7 _
            have hk67 : Keeps Nil w6 w7 := HK6.out.2.step hk7 (fun k hk => .inr (by rw [show k = w6.heap.size from hk]; exact Nat.le_refl _))
            have hk57 := HK6.out.1.trans hk67
            have h9 := (HT5.out.nil HK6.out.1).later (Nat.le_refl _)
            have HT7 := Lib.hid (HT5.out.nil hk57)
            have hB7 := HB7.out.1.keep0 hk57
            obtain ⟨g9, hg9⟩ : ∃ g9, w6.heap.size = g9 := ⟨_, rfl⟩
            rw [hg9] at hb7' h9 ⊢
            have HB9 := Lib.hid (And.intro (And.intro hB7 HB7.out.2) (And.intro hb7' h9))
            clear hk67 hk57 hB7 hb7' h9 hk7 hg9 HT5 HB7
            go_wp2_with (first
              | (refine wpl_load rfl 37 _ rfl g7 rfl HB9.out.1.1 _ Try.undKey rfl HDI.out ?_)
              | (refine wpl_load rfl 37 _ rfl g9 rfl HB9.out.2.1 _ Try.undKey rfl HEI.out ?_))
            refine (two_put HT7.out (by have := hA.out.2; omega) D E nn HWE.out).mono ?_
            rintro e w8 ⟨a8, c8, rfl, hT8, hk8, hf8⟩
            have HT8 := Lib.hid hT8
            have HB8 := Lib.hid (And.intro (And.intro (HB9.out.1.1.keep hk8 HB9.out.1.2.1) (And.intro (hf8 g7 HB9.out.1.1.lt HB9.out.1.2.1) HB9.out.1.2.2)) (HB9.out.2.1.keep hk8 HB9.out.2.2.1))
            clear hT8 hk8 hf8 HT7
            go_wp2_with (first
              | (refine wpl_load rfl 37 _ rfl g7 rfl HB8.out.1.1 _ Try.undKey rfl HDI.out ?_)
              | (refine wpl_load rfl 37 _ rfl g9 rfl HB8.out.2 _ Try.undKey rfl HEI.out ?_))
            refine (two_refput HT8.out hA.out.2 D E nn HWE.out).mono ?_
            rintro e w10 ⟨a10, c10, rfl, hT10, hk10, hf10⟩
            have HF := Lib.hid (And.intro hT10 (And.intro (HB8.out.1.1.keep hk10 (fun e => HB8.out.1.2.2 (.inl e))) (And.intro HB8.out.1.2.1 (hf10 g7 HB8.out.1.1.lt HB8.out.1.2.2))))
            clear hT10 hk10 hf10 HT8
            go_wp2_with fail
            go_meet
            exact ⟨_, _, _, _, _, Lib.hid HF.out.1, Lib.hid ⟨putE_apart hA.out.1 D nn E, putE_length l D nn E hA.out.2⟩, Lib.hid HF.out.2⟩
        case rest =>
          clear HT5 HB7 hA c0 c2' c3
          obtain ⟨a', c', a2', c2', l', hT, hA, hB⟩ := hcut
          have HFP := Lib.hid (show Calls Try.prog 20 #[.pointer (some ⟨gs, 0, none⟩), .agg (byteV D).toArray, .int .u32 (nn : Int)] wc (fun e w' => e = .returned (.tuple #[.agg (byteV (findKey l' D nn)).toArray, .bool (hasE l' D nn)]) ∧ Keeps Nil wc w') from find_walk hT.out.st D nn HD.out.1.1 HD.out.1.2)
          have HFR := Lib.hid (fun w' (hk : Keeps Nil wc w') => show Calls Try.prog 25 #[.pointer (some ⟨gx, 0, none⟩), .agg (byteV D).toArray, .int .u32 (nn : Int)] w' (fun e w'' => e = .returned (.tuple #[.agg (byteV (findKey l' D nn)).toArray, .bool (hasE l' D nn)]) ∧ Keeps Nil w' w'') from refFind_walk (hT.out.sk.keep0 hk) D nn HD.out.1.1 HD.out.1.2)
          have hfk := findKey_ok hT.out.st.wf D nn
          generalize findKey l' D nn = FK at *
          generalize hasE l' D nn = hb at *
          have HFI2 : Hid ((Try.prog.info? 37).map (·.size) = some (byteV FK).length) := Lib.hid (by rw [keyV_len hfk.1]; exact Try.infoKey)
          have HFK := Lib.hid (And.intro hfk (keyV_len hfk.1))
          clear hfk
          go_wp2_with (refine wpl_load rfl 37 _ rfl g7 rfl hB.out.1 _ Try.undKey rfl HDI.out ?_)
          refine HFP.out.mono ?_
          rintro e w6 ⟨rfl, hk6⟩
          have hkz6 := (Keeps.refl Nil w6).alloc (.cells zk.toArray 37)
          have HK6 := Lib.hid (And.intro hk6 hkz6)
          clear hkz6 hk6
          go_wp2_with (refine wpl_store rfl 37 _ _ rfl w6.heap.size rfl (byteV FK) rfl (Blk.new w6 zk _) (by rw [HZL.out]; exact HFK.out.2) HFI2.out oneCell_byteV ?_)
          intro w7 hb7 hk7 _
          have hk67 : Keeps Nil w6 w7 := HK6.out.2.step hk7 (fun k hk => .inr (by rw [show k = w6.heap.size from hk]; exact Nat.le_refl _))
          have hkc7 := HK6.out.1.trans hk67
          have HK7 := Lib.hid hkc7
          have HB7 := Lib.hid (hB.out.1.keep0 hkc7)
          obtain ⟨g10, hg10⟩ : ∃ g10, w6.heap.size = g10 := ⟨_, rfl⟩
          rw [hg10] at hb7 ⊢
          have HB10 := Lib.hid hb7
          clear hk67 hkc7 hb7 hk7 hg10 HK6 hB
          go_wp2_with (refine wpl_load rfl 37 _ rfl g7 rfl HB7.out _ Try.undKey rfl HDI.out ?_)
          refine (HFR.out w7 HK7.out).mono ?_
          rintro e w8 ⟨rfl, hk8⟩
          have hkz8 := (Keeps.refl Nil w8).alloc (.cells zk.toArray 37)
          have HK8 := Lib.hid (And.intro hk8 hkz8)
          clear hkz8 hk8
          go_wp2_with (refine wpl_store rfl 37 _ _ rfl w8.heap.size rfl (byteV FK) rfl (Blk.new w8 zk _) (by rw [HZL.out]; exact HFK.out.2) HFI2.out oneCell_byteV ?_)
          intro w9 hb9 hk9 _
          have hk89 : Keeps Nil w8 w9 := HK8.out.2.step hk9 (fun k hk => .inr (by rw [show k = w8.heap.size from hk]; exact Nat.le_refl _))
          have hk79 := HK8.out.1.trans hk89
          have HT9 := Lib.hid (hT.out.nil (HK7.out.trans hk79))
          obtain ⟨g12, hg12⟩ : ∃ g12, w8.heap.size = g12 := ⟨_, rfl⟩
          rw [hg12] at hb9 ⊢
          have HB12 := Lib.hid (And.intro (HB10.out.keep0 hk79) hb9)
          clear hk89 hk79 hb9 hk9 hg12 HK8 HB10 HB7 HK7 hT HFP HFR
          go_upto_region 24 with fail
          have f0 := HT9.out.sk.obj.cell 0 rfl
          refine wp_region_held_drew (S := fun w' => w'.cell? ⟨gx, 0, none⟩ = some (.slice a2' l'.length c2') ∧ w'.rangeAt g10 0 (byteV FK) ∧ w'.rangeAt g12 0 (byteV FK)) (by kernel_rfl) ⟨f0, HB12.out.1.range0, HB12.out.2.range0⟩ (fun hHeld => ?_)
          have HTv := Lib.hid (HT9.out.nil (Keeps.refl Nil w9).drew)
          have hQ := Try.neqS HFK.out.1.1 HFK.out.1.2
          have hg := fun (U V : List Value) (x y : Operand) (w : World) => Try.guardK .neq x y U.toArray V.toArray w
          have hUK := Try.undKey
          have hIK := HFI2.out
          clear HT9 HB12 f0
          generalize w9.drew = v0 at *
          generalize byteV FK = V at *
          refine takeL (i := 0) (v := _) rfl (by kernel_rfl) (by kernel_rfl) (by kernel_rfl) (fun _ _ _ h => h) (yieldsIf_load_mid (by rfl) 37 _ rfl g10 0 rfl (V) _ (fun w hSw => hSw.2.1) hUK rfl hIK) (by assumption) ?_
          try simp only [Act.put, List.setIfInBounds_toArray, List.set_cons_zero, List.set_cons_succ]
          refine takeL (i := 1) (v := _) rfl (by kernel_rfl) (by kernel_rfl) (by kernel_rfl) (fun _ _ _ h => h) (yieldsIf_load_mid (by rfl) 37 _ rfl g12 0 rfl (V) _ (fun w hSw => hSw.2.2) hUK rfl hIK) (by assumption) ?_
          try simp only [Act.put, List.setIfInBounds_toArray, List.set_cons_zero, List.set_cons_succ]
          refine takeL (i := 2) (v := _) rfl (by kernel_rfl) (by kernel_rfl) (by kernel_rfl) (fun _ _ _ h => h) (yieldsIf_bin (by rfl) _ _ _ _ _ rfl _ _ rfl rfl _ hQ (hg V V _ _)) (by assumption) ?_
          try simp only [Act.put, List.setIfInBounds_toArray, List.set_cons_zero, List.set_cons_succ]
          refine takeL (i := 3) (v := _) rfl (by kernel_rfl) (by kernel_rfl) (by kernel_rfl) (fun _ _ _ h => h) (Or.inl ⟨by rfl, by intro w hSw; (try dsimp only at hSw); go_simp; try with_reducible rfl⟩) (by assumption) ?_
          try simp only [Act.put, List.setIfInBounds_toArray, List.set_cons_zero, List.set_cons_succ]
          refine takeL (i := 4) (v := _) rfl (by kernel_rfl) (by kernel_rfl) (by kernel_rfl) (fun _ _ _ h => h) (Or.inl ⟨by rfl, by intro w hSw; (try dsimp only at hSw); go_simp; try with_reducible rfl⟩) (by assumption) ?_
          try simp only [Act.put, List.setIfInBounds_toArray, List.set_cons_zero, List.set_cons_succ]
          refine takeL (i := 5) (v := _) rfl (by kernel_rfl) (by kernel_rfl) (by kernel_rfl) (fun _ _ _ h => h) (Or.inl ⟨by rfl, by intro w hSw; (try dsimp only at hSw); go_simp; try with_reducible rfl⟩) (by assumption) ?_
          try simp only [Act.put, List.setIfInBounds_toArray, List.set_cons_zero, List.set_cons_succ]
          refine takeL (i := 6) (v := _) rfl (by kernel_rfl) (by kernel_rfl) (by kernel_rfl) (fun _ _ _ h => h) (Or.inl ⟨by rfl, by intro w hSw; (try dsimp only at hSw); go_simp; try with_reducible rfl⟩) (by assumption) ?_
          try simp only [Act.put, List.setIfInBounds_toArray, List.set_cons_zero, List.set_cons_succ]
          refine takeL (i := 7) (v := _) rfl (by kernel_rfl) (by kernel_rfl) (by kernel_rfl) (fun _ _ _ h => h) (Or.inl ⟨by rfl, by intro w hSw; (try dsimp only at hSw); go_simp; try with_reducible rfl⟩) (by assumption) ?_
          try simp only [Act.put, List.setIfInBounds_toArray, List.set_cons_zero, List.set_cons_succ]
          refine takeL (i := 8) (v := _) rfl (by kernel_rfl) (by kernel_rfl) (by kernel_rfl) (fun _ _ _ h => h) (Or.inl ⟨by rfl, by intro w hSw; (try dsimp only at hSw); go_simp; try with_reducible rfl⟩) (by assumption) ?_
          try simp only [Act.put, List.setIfInBounds_toArray, List.set_cons_zero, List.set_cons_succ]
          refine takeL (i := 10) (v := _) rfl (by kernel_rfl) (by kernel_rfl) (by kernel_rfl) (fun _ _ _ h => h) (Or.inl ⟨by rfl, by intro w hSw; (try dsimp only at hSw); go_simp; try with_reducible rfl⟩) (by assumption) ?_
          try simp only [Act.put, List.setIfInBounds_toArray, List.set_cons_zero, List.set_cons_succ]
          refine takeL (i := 11) (v := _) rfl (by kernel_rfl) (by kernel_rfl) (by kernel_rfl) (fun _ _ _ h => h) (Or.inl ⟨by rfl, by intro w hSw; (try dsimp only at hSw); go_simp; try with_reducible rfl⟩) (by assumption) ?_
          try simp only [Act.put, List.setIfInBounds_toArray, List.set_cons_zero, List.set_cons_succ]
          refine onlyL (i := 9) rfl (by kernel_rfl) (fun K hK => ?_)
          go_simp
          refine (all_walk HTv.out.st (by have := hA.out.2; omega)).mono ?_
          rintro e w6 ⟨ar, cr, rfl, hor, hkr, hfr⟩
          have HT6 := Lib.hid (HTv.out.nil hkr)
          have HO := Lib.hid (EntsAt.of_own hor)
          refine (fun hHeld => hK _ _ hHeld ?_) (⟨hkr.cell hHeld.1 (fun h => h), (fun j v hv => hkr.cell (hHeld.2.1 j v hv) (fun h => h)), (fun j v hv => hkr.cell (hHeld.2.2 j v hv) (fun h => h))⟩)
          clear hK
          try simp only [Act.put, List.setIfInBounds_toArray, List.set_cons_zero, List.set_cons_succ]
          refine onlyL (i := 12) rfl (by kernel_rfl) (fun K hK => ?_)
          go_simp
          refine (sameE_walk HO.out HT6.out.sk.ents HT6.out.st.wf (by have := hA.out.2; omega)).mono ?_
          rintro e w10 ⟨rfl, hk10⟩
          have HT10 := Lib.hid (HT6.out.nil hk10)
          refine (fun hHeld => hK _ _ hHeld ?_) (⟨hk10.cell hHeld.1 (fun h => h), (fun j v hv => hk10.cell (hHeld.2.1 j v hv) (fun h => h)), (fun j v hv => hk10.cell (hHeld.2.2 j v hv) (fun h => h))⟩)
          clear hK
          try simp only [Act.put, List.setIfInBounds_toArray, List.set_cons_zero, List.set_cons_succ]
          refine takeL (i := 13) (v := _) rfl (by kernel_rfl) (by kernel_rfl) (by kernel_rfl) (fun _ _ _ h => h) (Or.inl ⟨by rfl, by intro w hSw; (try dsimp only at hSw); go_simp; try with_reducible rfl⟩) (by assumption) ?_
          try simp only [Act.put, List.setIfInBounds_toArray, List.set_cons_zero, List.set_cons_succ]
          refine takeL (i := 14) (v := _) rfl (by kernel_rfl) (by kernel_rfl) (by kernel_rfl) (fun _ _ _ h => h) (Or.inl ⟨by rfl, by intro w hSw; (try dsimp only at hSw); go_simp; try with_reducible rfl⟩) (by assumption) ?_
          try simp only [Act.put, List.setIfInBounds_toArray, List.set_cons_zero, List.set_cons_succ]
          refine wpAnyH_done (by kernel_rfl) ?_ _
          clear hHeld hor hkr hfr hk10
          go_wp2_with fail
          exact ⟨⟨i + 1, _, _, _, _, _, by go_num, by omega, HT10, hA⟩, by first | (simp [intOf]; done) | (simp [intOf]; omega)⟩
      · obtain rfl : i = len0 := by omega
        have hii : ¬ ((i : Int) < i) := by omega
        have HF := Lib.hid hT.out.keeps
        clear hT hA
        go_wp2_with fail
        go_ret
        exact ⟨rfl, HF.out⟩
  · have hl0i : (120 : Int) < len0 := by omega
    go_enter Try.func6, Try.ntmps6
    go_wp2_with fail
    refine HFI.out.mono ?_
    rintro e w1 ⟨rfl, hk1⟩
    have HK1 := Lib.hid hk1
    clear hk1
    go_wp2_with fail
    go_ret
    exact ⟨rfl, HK1.out⟩
end Go.Proofs.Ytokminiendnhoaa
