/-
  Slots: puts.
-/
import Derived.Test.YtkefbgkdkmkghaaDoorSlotsPlain
import Derived.Test.YtkefbgkdkmkghaaDoorDuo
namespace Go.Proofs.YtkefbgkdkmkghaaDoor
set_option linter.unusedSimpArgs false
set_option linter.unusedVariables false
open Go.RowKit

theorem SlAt.keep {S : Nat → Prop} {w w' : World} {g p : Nat} {s : Sv} (h : SlAt w g p s) (hk : Keeps S w w') (hn : ¬ S g) : SlAt w' g p s := Blk.keep h hk hn
theorem SlAt.lt {w : World} {g p : Nat} {s : Sv} (h : SlAt w g p s) : g < w.heap.size := Blk.lt h
/-- A part of a row. -/
theorem Row.part {w : World} {gb off n : Nat} {b : List Int} (h : Row .u8 w (some ⟨gb, off, none⟩) n b) (J H : Nat) (h1 : J ≤ H) (h2 : H ≤ n) : Row .u8 w (some ⟨gb, off + J, none⟩) (H - J) ((b.drop J).take (H - J)) := by
  have h3 := (h.tail J (by omega)).head (m := H - J) (by omega)
  rw [Addr.add_lit] at h3
  exact h3
theorem Row.keepN {w w' : World} {ab : Option Addr} {n : Nat} {b : List Int} {S : Nat → Prop} (h : Row .u8 w ab n b) (hk : Keeps S w w') (hn : 0 < n → ∀ k, blkOf ab k → ¬ S k) : Row .u8 w' ab n b :=
  ⟨h.llen, h.most, fun h0 => by
    obtain ⟨g, o, ha, hb, hc⟩ := h.cell h0
    exact ⟨g, o, ha, Nat.lt_of_lt_of_le hb hk.size, fun i hi => hk.cell (hc i hi) (hn h0 g (by rw [ha]; exact (blkOf_some _ _ _ _).2 rfl))⟩, h.wf⟩
theorem Row.blk_lt {w : World} {ab : Option Addr} {n : Nat} {b : List Int} (h : Row .u8 w ab n b) (h0 : 0 < n) : ∀ k, blkOf ab k → k < w.heap.size := fun k hk => by
  obtain ⟨g, o, ha, hb, _⟩ := h.cell h0
  subst ha
  rw [(blkOf_some _ _ _ _).1 hk]
  exact hb
/-- What a call on a disk that the law made leaves: a value, the disk as it is then. -/
def MineP (w0 w : World) (p : Nat) (R : Roles) (d : Dk) (v : Value) (e : Ending) (w' : World) : Prop := ∃ R', e = .returned v ∧ Mine w0 w' p R' d ∧ Grew w w' R R'
set_option maxRecDepth 20000 in
set_option maxHeartbeats 3200000 in
theorem puts_walk {w0 w : World} {p g : Nat} {R : Roles} {d : Dk} {s : Sv} {pe : Nat → Addr} (hE : Err2 w0 pe) (hM : Mine w0 w p R d) (hs : SlAt w g p s) (hg : R g = 0) {m : Nat} (hok : d.Ok m) (hm : m ≤ 100000) (f : Nat) (hf : f ≤ 1000000)
    {ab : Option Addr} {n cb : Nat} {b : List Int} (hb : Row .u8 w ab n b) (hnc : n ≤ cb) (hcx : cb ≤ 9223372036854775807) (hn : n ≤ 60000) (hbR : 0 < n → ∀ k, blkOf ab k → R k = 0) :
    Calls Tryd.prog 54 #[.pointer (some ⟨g, 0, none⟩), .int .i64 f, .slice ab n cb] w (MineP w0 w p R (d.puts f b).1 (errO pe (d.puts f b).2)) := by
  have hl := hb.llen
  have HE := Lib.hid hE
  have HM := Lib.hid hM
  have HSL := Lib.hid hs
  have HG0 := Lib.hid hg
  have HOK := Lib.hid hok
  have HRB := Lib.hid (And.intro hb hbR)
  have hby := wf_areB hb.wf
  have HBY := Lib.hid hby
  have HNO : Hid (errO pe none = .nilIface) := Lib.hid rfl
  have HTK := Lib.hid (fun w => takes_walk n w (by omega))
  obtain ⟨T, hT⟩ : ∃ T, T = takesN n := ⟨_, rfl⟩
  have hTb : (T : Nat) * 128 < n + 128 ∧ n ≤ T * 128 := by rw [hT]; unfold takesN; omega
  rw [← hT] at HTK
  have HTN : Hid (takesN b.length = T) := Lib.hid (by rw [hT, hl])
  clear hE hM hs hg hok hb hbR hby hT
  go_enter Tryd.func54, Tryd.ntmps54
  go_wp2_with fail
  refine (HTK.out w).mono ?_
  rintro e w1 ⟨rfl, rfl⟩
  go_wp2_with fail
  go_loopw [13, 7, 8, 9] (fun x _ _ _ wr => ∃ (j : Nat) (R' : Roles), x = .int .i64 j ∧ j ≤ T ∧ Hid (Mine w0 wr p R' (d.writes f ((secsL b).take j)).1) ∧ Hid ((d.writes f ((secsL b).take j)).2 = none) ∧ Hid (Grew w wr R R')) (fun x _ _ _ _ => T - (intOf x).toNat)
  case atStart => exact ⟨0, R, rfl, Nat.zero_le _, HM, Lib.hid rfl, Lib.hid (Grew.refl _ _)⟩
  case round =>
    obtain ⟨j, R', rfl, hj, hMj, hNj, hGj⟩ := hrel
    have hsj : SlAt wr g p s := HSL.out.keep hGj.out.keeps (wr_not HG0.out)
    have c0 := Blk.cell hsj 0 rfl
    by_cases hjT : j < T
    · have hj1 : (j : Int) < T := by omega
      have hj0 : (0 : Int) ≤ j := by omega
      obtain ⟨J, hJ⟩ : ∃ J, J = j * 128 := ⟨_, rfl⟩
      have hJn : J < n := by
        have : j * 128 + 128 ≤ T * 128 := by omega
        omega
      have hJi : (j : Int) * 128 = (J : Int) := by omega
      have hJ2 : ((j : Int) + 1) * 128 = ((J + 128 : Nat) : Int) := by omega
      have hcJ : ¬ cb = J := by omega
      have hrw := HRB.out.1.keepN hGj.out.keeps (fun h0 k hk => wr_not (HRB.out.2 h0 k hk))
      obtain ⟨gb, off, ha, hgl, _⟩ := hrw.cell (by omega)
      subst ha
      have HOKJ := Lib.hid (show (d.writes f ((secsL b).take j)).1.Ok 100500 from (writes_ok _ f HOK.out (fun x hx => (secsL_mem HBY.out x (List.mem_of_mem_take hx)).1)).mono (by rw [List.length_take, secsL_len, HTN.out]; omega))
      have hfj : IntKind.i64.wrap ((f : Int) + (j : Int)) = ((f + j : Nat) : Int) := by rw [show (f : Int) + j = ((f + j : Nat) : Int) by omega]; exact IntWalk.i64_in _ (by omega)
      have HBB := Lib.hid (chunk_bytes HBY.out j)
      obtain ⟨Fj, hFj⟩ : ∃ x, x = f + j := ⟨_, rfl⟩
      rw [← hFj] at hfj
      have hsn := writes_snoc ((secsL b).take j) d f (secL (chunkL b j))
      rw [hNj.out, if_pos rfl, List.length_take, secsL_len, Nat.min_eq_left (by rw [HTN.out]; omega), ← secsL_take (by rw [HTN.out]; omega), ← hFj] at hsn
      obtain ⟨D1, wo, hdw⟩ : ∃ D1 wo, (d.writes f ((secsL b).take j)).1.write (Fj : Int) (secL (chunkL b j)) = (D1, wo) := ⟨_, _, rfl⟩
      have HSN := Lib.hid hdw
      rw [hdw] at hsn
      have HSM := Lib.hid hsn
      clear hFj hdw hsn
      by_cases hlast : J + 128 ≤ n
      · have hmn : ((J + 128 : Nat) : Int) ≤ n := by omega
        have hch : (b.drop J).take 128 = chunkL b j := by unfold chunkL; rw [← hJ]
        have hpt := hrw.part J (J + 128) (by omega) hlast
        rw [show J + 128 - J = 128 by omega, hch] at hpt
        have HROW := Lib.hid hpt
        have HLE : Hid (128 ≤ 128) := Lib.hid (by omega)
        clear hpt
        clear hch hrw hJ
        go_upto_region 5 with fail
        refine wp_region_held_drew (S := fun w' => w'.cell? ⟨g, 0, none⟩ = some (.pointer (some ⟨p, 0, none⟩))) (by kernel_rfl) c0 (fun hHeld => ?_)
        have hkd : Keeps Nil wr wr.drew := (Keeps.refl Nil wr).drew
        have HMv := Lib.hid (hMj.out.nil hkd)
        have HRv := Lib.hid (HROW.out.keep hkd)
        have HGv := Lib.hid (hGj.out.trans (Grew.of_nil R' hkd))
        clear hkd c0 HROW
        generalize wr.drew = v0 at *
        refine takeL (i := 0) (v := _) rfl (by kernel_rfl) (by kernel_rfl) (by kernel_rfl) (fun _ _ _ h => h) (Or.inl ⟨by rfl, by intro w hSw; (try dsimp only at hSw); go_simp; try with_reducible rfl⟩) (by assumption) ?_
        try simp only [Act.put, List.setIfInBounds_toArray, List.set_cons_zero, List.set_cons_succ]
        refine takeL (i := 1) (v := _) rfl (by kernel_rfl) (by kernel_rfl) (by kernel_rfl) (fun _ _ _ h => h) (Or.inl ⟨by rfl, by intro w hSw; (try dsimp only at hSw); go_simp; try with_reducible rfl⟩) (by assumption) ?_
        try simp only [Act.put, List.setIfInBounds_toArray, List.set_cons_zero, List.set_cons_succ]
        refine takeL (i := 2) (v := _) rfl (by kernel_rfl) (by kernel_rfl) (by kernel_rfl) (fun _ _ _ h => h) (Or.inl ⟨by rfl, by intro w hSw; (try dsimp only at hSw); go_simp; try with_reducible rfl⟩) (by assumption) ?_
        try simp only [Act.put, List.setIfInBounds_toArray, List.set_cons_zero, List.set_cons_succ]
        refine takeL (i := 3) (v := _) rfl (by kernel_rfl) (by kernel_rfl) (by kernel_rfl) (fun _ _ _ h => h) (Or.inl ⟨by rfl, by intro w hSw; (try dsimp only at hSw); go_simp; try with_reducible rfl⟩) (by assumption) ?_
        try simp only [Act.put, List.setIfInBounds_toArray, List.set_cons_zero, List.set_cons_succ]
        refine takeL (i := 4) (v := _) rfl (by kernel_rfl) (by kernel_rfl) (by kernel_rfl) (fun _ _ _ h => h) (Or.inl ⟨by rfl, by intro w hSw; (try dsimp only at hSw); go_simp; try with_reducible rfl⟩) (by assumption) ?_
        try simp only [Act.put, List.setIfInBounds_toArray, List.set_cons_zero, List.set_cons_succ]
        refine takeL (i := 5) (v := _) rfl (by kernel_rfl) (by kernel_rfl) (by kernel_rfl) (fun _ _ _ h => h) (Or.inl ⟨by rfl, by intro w hSw; (try dsimp only at hSw); go_simp; try with_reducible rfl⟩) (by assumption) ?_
        try simp only [Act.put, List.setIfInBounds_toArray, List.set_cons_zero, List.set_cons_succ]
        refine takeL (i := 6) (v := _) rfl (by kernel_rfl) (by kernel_rfl) (by kernel_rfl) (fun _ _ _ h => h) (Or.inl ⟨by rfl, by intro w hSw; (try dsimp only at hSw); go_simp; try with_reducible rfl⟩) (by assumption) ?_
        try simp only [Act.put, List.setIfInBounds_toArray, List.set_cons_zero, List.set_cons_succ]
        refine takeL (i := 7) (v := _) rfl (by kernel_rfl) (by kernel_rfl) (by kernel_rfl) (fun _ _ _ h => h) (Or.inl ⟨by rfl, by intro w hSw; (try dsimp only at hSw); go_simp; try with_reducible rfl⟩) (by assumption) ?_
        try simp only [Act.put, List.setIfInBounds_toArray, List.set_cons_zero, List.set_cons_succ]
        refine onlyL (i := 8) rfl (by kernel_rfl) (fun K hK => ?_)
        go_simp
        refine (sector_walk (c := cb - J) HRv.out (fun e => by cases e) HLE.out).mono ?_
        rintro e ws ⟨gS, cS, rfl, hoS, hkS, hfS⟩
        refine (fun hHeld => hK _ _ hHeld ?_) ((hkS.cell hHeld (fun h => h)))
        clear hK
        try simp only [Act.put, List.setIfInBounds_toArray, List.set_cons_zero, List.set_cons_succ]
        refine onlyL (i := 9) rfl (by kernel_rfl) (fun K hK => ?_)
        go_simp
        have hmw := mine_write HE.out (HMv.out.nil hkS) HOKJ.out (by omega) (Fj : Nat) (cb := cS) (hoS.row (areB_wf (secL_bytes HBB.out)))
        rw [HSN.out] at hmw
        refine hmw.mono ?_
        clear hmw
        rintro e w5 ⟨R5, rfl, hM5, hG5⟩
        refine (fun hHeld => hK _ _ hHeld ?_) ((hG5.keeps.cell hHeld (wr_not (by rw [HGv.out.same g HSL.out.lt]; exact HG0.out))))
        clear hK
        try simp only [Act.put, List.setIfInBounds_toArray, List.set_cons_zero, List.set_cons_succ]
        refine takeL (i := 10) (v := _) rfl (by kernel_rfl) (by kernel_rfl) (by kernel_rfl) (fun _ _ _ h => h) (Or.inl ⟨by rfl, by intro w hSw; (try dsimp only at hSw); go_simp; try with_reducible rfl⟩) (by assumption) ?_
        try simp only [Act.put, List.setIfInBounds_toArray, List.set_cons_zero, List.set_cons_succ]
        refine wpAnyH_done (by kernel_rfl) ?_ _
        have HG5 := Lib.hid (HGv.out.trans ((Grew.of_nil R' hkS).trans hG5))
        have HM5 := Lib.hid hM5
        clear hHeld hoS hkS hfS hM5 hG5 HMv HRv HSN
        cases wo with
        | none =>
          rw [HNO.out]
          have HW1 := Lib.hid (And.intro (show Mine w0 w5 p R5 (d.writes f ((secsL b).take (j + 1))).1 by rw [HSM.out]; exact HM5.out) (show (d.writes f ((secsL b).take (j + 1))).2 = none by rw [HSM.out]))
          clear HSM HM5
          go_wp2_with fail
          exact ⟨⟨j + 1, R5, by go_num, by omega, Lib.hid HW1.out.1, Lib.hid HW1.out.2, HG5⟩, by first | (simp [intOf]; done) | (simp [intOf]; omega)⟩
        | some k =>
          have hall : d.writes f (secsL b) = (D1, some k) := by
            rw [← HSM.out]
            conv => lhs; rw [← List.take_append_drop (j + 1) (secsL b)]
            exact writes_err _ _ _ _ (by rw [HSM.out]; simp)
          have HPU : Hid (d.puts f b = (D1, some k)) := Lib.hid (by
            unfold Dk.puts
            rw [hall, if_neg (by simp)])
          obtain ⟨te, xe, hev⟩ := errV_ne pe k
          have HEV := Lib.hid hev
          rw [hev]
          clear hev hall HSM
          go_wp2_with fail
          go_ret
          exact ⟨R5, by rw [HPU.out, HEV.out]; rfl, by rw [HPU.out]; exact HM5.out, HG5.out⟩
      · have hmn : ¬ ((J + 128 : Nat) : Int) ≤ n := by omega
        have hch : (b.drop J).take (n - J) = chunkL b j := by
          unfold chunkL
          rw [← hJ, List.take_of_length_le (by rw [List.length_drop]; omega), List.take_of_length_le (by rw [List.length_drop]; omega)]
        have HROW := Lib.hid (hch ▸ hrw.part J n (by omega) (Nat.le_refl _))
        have HLE : Hid (n - J ≤ 128) := Lib.hid (by omega)
        clear hch hrw hJ
        go_upto_region 5 with fail
        refine wp_region_held_drew (S := fun w' => w'.cell? ⟨g, 0, none⟩ = some (.pointer (some ⟨p, 0, none⟩))) (by kernel_rfl) c0 (fun hHeld => ?_)
        have hkd : Keeps Nil wr wr.drew := (Keeps.refl Nil wr).drew
        have HMv := Lib.hid (hMj.out.nil hkd)
        have HRv := Lib.hid (HROW.out.keep hkd)
        have HGv := Lib.hid (hGj.out.trans (Grew.of_nil R' hkd))
        clear hkd c0 HROW
        generalize wr.drew = v0 at *
        refine takeL (i := 0) (v := _) rfl (by kernel_rfl) (by kernel_rfl) (by kernel_rfl) (fun _ _ _ h => h) (Or.inl ⟨by rfl, by intro w hSw; (try dsimp only at hSw); go_simp; try with_reducible rfl⟩) (by assumption) ?_
        try simp only [Act.put, List.setIfInBounds_toArray, List.set_cons_zero, List.set_cons_succ]
        refine takeL (i := 1) (v := _) rfl (by kernel_rfl) (by kernel_rfl) (by kernel_rfl) (fun _ _ _ h => h) (Or.inl ⟨by rfl, by intro w hSw; (try dsimp only at hSw); go_simp; try with_reducible rfl⟩) (by assumption) ?_
        try simp only [Act.put, List.setIfInBounds_toArray, List.set_cons_zero, List.set_cons_succ]
        refine takeL (i := 2) (v := _) rfl (by kernel_rfl) (by kernel_rfl) (by kernel_rfl) (fun _ _ _ h => h) (Or.inl ⟨by rfl, by intro w hSw; (try dsimp only at hSw); go_simp; try with_reducible rfl⟩) (by assumption) ?_
        try simp only [Act.put, List.setIfInBounds_toArray, List.set_cons_zero, List.set_cons_succ]
        refine takeL (i := 3) (v := _) rfl (by kernel_rfl) (by kernel_rfl) (by kernel_rfl) (fun _ _ _ h => h) (Or.inl ⟨by rfl, by intro w hSw; (try dsimp only at hSw); go_simp; try with_reducible rfl⟩) (by assumption) ?_
        try simp only [Act.put, List.setIfInBounds_toArray, List.set_cons_zero, List.set_cons_succ]
        refine takeL (i := 4) (v := _) rfl (by kernel_rfl) (by kernel_rfl) (by kernel_rfl) (fun _ _ _ h => h) (Or.inl ⟨by rfl, by intro w hSw; (try dsimp only at hSw); go_simp; try with_reducible rfl⟩) (by assumption) ?_
        try simp only [Act.put, List.setIfInBounds_toArray, List.set_cons_zero, List.set_cons_succ]
        refine takeL (i := 5) (v := _) rfl (by kernel_rfl) (by kernel_rfl) (by kernel_rfl) (fun _ _ _ h => h) (Or.inl ⟨by rfl, by intro w hSw; (try dsimp only at hSw); go_simp; try with_reducible rfl⟩) (by assumption) ?_
        try simp only [Act.put, List.setIfInBounds_toArray, List.set_cons_zero, List.set_cons_succ]
        refine takeL (i := 6) (v := _) rfl (by kernel_rfl) (by kernel_rfl) (by kernel_rfl) (fun _ _ _ h => h) (Or.inl ⟨by rfl, by intro w hSw; (try dsimp only at hSw); go_simp; try with_reducible rfl⟩) (by assumption) ?_
        try simp only [Act.put, List.setIfInBounds_toArray, List.set_cons_zero, List.set_cons_succ]
        refine takeL (i := 7) (v := _) rfl (by kernel_rfl) (by kernel_rfl) (by kernel_rfl) (fun _ _ _ h => h) (Or.inl ⟨by rfl, by intro w hSw; (try dsimp only at hSw); go_simp; try with_reducible rfl⟩) (by assumption) ?_
        try simp only [Act.put, List.setIfInBounds_toArray, List.set_cons_zero, List.set_cons_succ]
        refine onlyL (i := 8) rfl (by kernel_rfl) (fun K hK => ?_)
        go_simp
        refine (sector_walk (c := cb - J) HRv.out (fun e => by cases e) HLE.out).mono ?_
        rintro e ws ⟨gS, cS, rfl, hoS, hkS, hfS⟩
        refine (fun hHeld => hK _ _ hHeld ?_) ((hkS.cell hHeld (fun h => h)))
        clear hK
        try simp only [Act.put, List.setIfInBounds_toArray, List.set_cons_zero, List.set_cons_succ]
        refine onlyL (i := 9) rfl (by kernel_rfl) (fun K hK => ?_)
        go_simp
        have hmw := mine_write HE.out (HMv.out.nil hkS) HOKJ.out (by omega) (Fj : Nat) (cb := cS) (hoS.row (areB_wf (secL_bytes HBB.out)))
        rw [HSN.out] at hmw
        refine hmw.mono ?_
        clear hmw
        rintro e w5 ⟨R5, rfl, hM5, hG5⟩
        refine (fun hHeld => hK _ _ hHeld ?_) ((hG5.keeps.cell hHeld (wr_not (by rw [HGv.out.same g HSL.out.lt]; exact HG0.out))))
        clear hK
        try simp only [Act.put, List.setIfInBounds_toArray, List.set_cons_zero, List.set_cons_succ]
        refine takeL (i := 10) (v := _) rfl (by kernel_rfl) (by kernel_rfl) (by kernel_rfl) (fun _ _ _ h => h) (Or.inl ⟨by rfl, by intro w hSw; (try dsimp only at hSw); go_simp; try with_reducible rfl⟩) (by assumption) ?_
        try simp only [Act.put, List.setIfInBounds_toArray, List.set_cons_zero, List.set_cons_succ]
        refine wpAnyH_done (by kernel_rfl) ?_ _
        have HG5 := Lib.hid (HGv.out.trans ((Grew.of_nil R' hkS).trans hG5))
        have HM5 := Lib.hid hM5
        clear hHeld hoS hkS hfS hM5 hG5 HMv HRv HSN
        cases wo with
        | none =>
          rw [HNO.out]
          have HW1 := Lib.hid (And.intro (show Mine w0 w5 p R5 (d.writes f ((secsL b).take (j + 1))).1 by rw [HSM.out]; exact HM5.out) (show (d.writes f ((secsL b).take (j + 1))).2 = none by rw [HSM.out]))
          clear HSM HM5
          go_wp2_with fail
          exact ⟨⟨j + 1, R5, by go_num, by omega, Lib.hid HW1.out.1, Lib.hid HW1.out.2, HG5⟩, by first | (simp [intOf]; done) | (simp [intOf]; omega)⟩
        | some k =>
          have hall : d.writes f (secsL b) = (D1, some k) := by
            rw [← HSM.out]
            conv => lhs; rw [← List.take_append_drop (j + 1) (secsL b)]
            exact writes_err _ _ _ _ (by rw [HSM.out]; simp)
          have HPU : Hid (d.puts f b = (D1, some k)) := Lib.hid (by
            unfold Dk.puts
            rw [hall, if_neg (by simp)])
          obtain ⟨te, xe, hev⟩ := errV_ne pe k
          have HEV := Lib.hid hev
          rw [hev]
          clear hev hall HSM
          go_wp2_with fail
          go_ret
          exact ⟨R5, by rw [HPU.out, HEV.out]; rfl, by rw [HPU.out]; exact HM5.out, HG5.out⟩
    · obtain rfl : j = T := by omega
      have hjj : ¬ ((j : Int) < j) := by omega
      have hall : (secsL b).take j = secsL b := List.take_of_length_le (by rw [secsL_len, HTN.out]; exact Nat.le_refl _)
      have HOKJ := Lib.hid (show (d.writes f ((secsL b).take j)).1.Ok 100500 from (writes_ok _ f HOK.out (fun x hx => (secsL_mem HBY.out x (List.mem_of_mem_take hx)).1)).mono (by rw [List.length_take, secsL_len, HTN.out]; omega))
      rw [hall] at hMj hNj HOKJ
      have HPU : Hid (d.puts f b = (d.writes f (secsL b)).1.sync) := Lib.hid (by unfold Dk.puts; rw [if_pos hNj.out])
      have HSY := Lib.hid (mine_sync HE.out hMj.out HOKJ.out (by omega))
      clear hall HOKJ
      go_wp2_with fail
      refine HSY.out.mono ?_
      rintro e w5 ⟨rfl, hM5, hk5⟩
      have HF := Lib.hid (And.intro hM5 (hGj.out.trans (grew_of hk5)))
      clear hM5 hk5
      go_wp2_with fail
      go_ret
      exact ⟨R', by rw [HPU.out]; rfl, by rw [HPU.out]; exact HF.out.1, HF.out.2⟩
end Go.Proofs.YtkefbgkdkmkghaaDoor
