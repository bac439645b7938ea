/-
  Slots: Load.
-/
import Derived.Test.YtkefbgkdkmkghaaDoorSlotsPuts
namespace Go.Proofs.YtkefbgkdkmkghaaDoor
set_option linter.unusedSimpArgs false
set_option linter.unusedVariables false
open Go.RowKit

theorem lastV_okS {d : Dk} {m : Nat} (h : d.Ok m) {i : Nat} (hi : i < d.vs.length) : (lastV (d.at_ i)).length = 128 ∧ AreB (lastV (d.at_ i)) :=
  h.each _ (Dk.at_mem hi) _ (lastV_mem (h.some _ (Dk.at_mem hi)))
theorem loadTo_len {d : Dk} {m : Nat} (h : d.Ok m) (s : Sv) : ∀ j, d.first s.half + j ≤ d.vs.length → (d.loadTo s j).length = 128 * j ∧ AreB (d.loadTo s j)
  | 0, _ => ⟨by simp [Dk.loadTo], fun x hx => by simp [Dk.loadTo] at hx⟩
  | j + 1, hj => by
    have ih := loadTo_len h s j (by omega)
    have hv := lastV_okS h (i := d.first s.half + j) (by omega)
    rw [loadTo_succ]
    exact ⟨by rw [List.length_append, ih.1, hv.1]; omega, areB_append ih.2 hv.2⟩
theorem readOn {d : Dk} (ho : d.off = false) {i : Nat} (hi : i < d.vs.length) : d.readE i = none ∧ d.readV i = lastV (d.at_ i) := by
  have he : d.readE i = none := by unfold Dk.readE; rw [ho, if_neg (by simp), if_neg (by omega)]
  exact ⟨he, by unfold Dk.readV; rw [he, if_pos rfl]; rfl⟩
/-- What Load hands out. -/
def LoadP (w : World) (l : List Int) (e : Ending) (w' : World) : Prop := ∃ a cap, e = .returned (.tuple #[.slice a l.length cap, .nilIface]) ∧ Own w' 5 1 a cap l.length (byteV l) ∧ Keeps Nil w w' ∧ ∀ k, blkOf a k → w.heap.size ≤ k
set_option maxRecDepth 20000 in
set_option maxHeartbeats 3200000 in
theorem load_walk {w0 w : World} {p g : Nat} {R : Roles} {d : Dk} {s : Sv} {pe : Nat → Addr} (hE : Err2 w0 pe) (hM : Mine w0 w p R d) (hs : SlAt w g p s) {m : Nat} (hok : d.Ok m) (ho : d.off = false) (h1 : 1 ≤ d.vs.length) (hf : d.first s.half + takesN s.many ≤ d.vs.length) (hm : s.many ≤ 60000) (hh : s.half ≤ 1) :
    Calls Tryd.prog 41 #[.pointer (some ⟨g, 0, none⟩)] w (LoadP w (d.loadV s)) := by
  have HE := Lib.hid hE
  have HM := Lib.hid hM
  have HSL := Lib.hid hs
  have HOK := Lib.hid hok
  have HO := Lib.hid ho
  have h4 := hok.size
  have HNO : Hid (errO pe none = .nilIface) := Lib.hid rfl
  have HTK := Lib.hid (fun w => takes_walk s.many w (by omega))
  obtain ⟨T, hT⟩ : ∃ T, T = takesN s.many := ⟨_, rfl⟩
  have hTb : s.many ≤ 128 * T ∧ T ≤ 500 := by rw [hT]; unfold takesN; omega
  rw [← hT] at HTK hf
  have HLV : Hid (d.loadV s = (d.loadTo s T).take s.many) := Lib.hid (by rw [hT]; rfl)
  have HFW := Lib.hid (fun w (hD : IsDisk w p R d) (hS : SlAt w g p s) => first_walk hD hS h1 h4 s.half (by omega))
  obtain ⟨F, hF⟩ : ∃ F, F = d.first s.half := ⟨_, rfl⟩
  rw [← hF] at HFW hf
  have HFF := Lib.hid hF
  have c3 := Blk.cell hs 3 rfl
  clear hE hM hs hok ho hT hF
  go_enter Tryd.func41, Tryd.ntmps41
  go_wp2_with fail
  refine (HTK.out w).mono ?_
  rintro e w1 ⟨rfl, rfl⟩
  go_wp2_with fail
  go_loopw [13, 4, 5, 6, 7] (fun x o _ _ _ wr => ∃ (j : Nat) (ao : Option Addr) (no co : Nat), x = .int .i64 j ∧ j ≤ T ∧ o = .slice ao no co ∧ Hid (no = 128 * j) ∧ Hid (Own wr 5 1 ao co no (byteV (d.loadTo s j))) ∧ Hid (Keeps Nil w wr) ∧ Hid (∀ k, blkOf ao k → w.heap.size ≤ k)) (fun x _ _ _ _ _ => T - (intOf x).toNat)
  case atStart => exact ⟨0, none, 0, 0, rfl, Nat.zero_le _, rfl, Lib.hid rfl, Lib.hid (Own.nil _ _ _), Lib.hid (Keeps.refl _ _), Lib.hid (fun k hk => (blkOf_none k hk).elim)⟩
  case round =>
    obtain ⟨j, ao, no, co, rfl, hj, rfl, hno, hO, hkj, hfr⟩ := hrel
    by_cases hjT : j < T
    · have hj1 : (j : Int) < T := by omega
      have hj0 : (0 : Int) ≤ j := by omega
      have hS := HSL.out.keep hkj.out (fun h => h)
      have c0 := Blk.cell hS 0 rfl
      have c2 := Blk.cell hS 2 rfl
      obtain ⟨I, hI⟩ : ∃ I, I = F + j := ⟨_, rfl⟩
      have hfj : IntKind.i64.wrap ((F : Int) + (j : Int)) = (I : Int) := by rw [hI, show (F : Int) + j = ((F + j : Nat) : Int) by omega]; exact IntWalk.i64_in _ (by omega)
      have hrd := readOn HO.out (i := I) (by omega)
      have hlv := lastV_okS HOK.out (i := I) (by omega)
      have hsu := loadTo_succ d s j
      rw [← HFF.out, ← hI] at hsu
      have HRD := Lib.hid (And.intro hrd (And.intro hlv hsu))
      have hno3 : no + 128 ≤ 100000 := by have := hno.out; omega
      clear hI hrd hlv hsu c3
      go_upto_region 5 with fail
      refine wp_region_held_drew (S := fun w' => w'.cell? ⟨g, 0, none⟩ = some (.pointer (some ⟨p, 0, none⟩)) ∧ w'.cell? ⟨g, 2, none⟩ = some (.int .i64 s.half)) (by kernel_rfl) ⟨c0, c2⟩ (fun hHeld => ?_)
      have hkd : Keeps Nil wr wr.drew := (Keeps.refl Nil wr).drew
      have HMv := Lib.hid (HM.out.nil (hkj.out.trans hkd))
      have HSv := Lib.hid (hS.keep hkd (fun h => h))
      have HKv := Lib.hid (hkj.out.trans hkd)
      have HOv := Lib.hid (hO.out.keep0 hkd)
      clear hkd c0 c2 hS hO hkj
      generalize wr.drew = v0 at *
      refine takeL (i := 0) (v := _) rfl (by kernel_rfl) (by kernel_rfl) (by kernel_rfl) (fun _ _ _ h => h) (Or.inl ⟨by rfl, by intro w hSw; (try dsimp only at hSw); go_simp; try with_reducible rfl⟩) (by assumption) ?_
      try simp only [Act.put, List.setIfInBounds_toArray, List.set_cons_zero, List.set_cons_succ]
      refine takeL (i := 1) (v := _) rfl (by kernel_rfl) (by kernel_rfl) (by kernel_rfl) (fun _ _ _ h => h) (Or.inl ⟨by rfl, by intro w hSw; (try dsimp only at hSw); go_simp; try with_reducible rfl⟩) (by assumption) ?_
      try simp only [Act.put, List.setIfInBounds_toArray, List.set_cons_zero, List.set_cons_succ]
      refine takeL (i := 2) (v := _) rfl (by kernel_rfl) (by kernel_rfl) (by kernel_rfl) (fun _ _ _ h => h) (Or.inl ⟨by rfl, by intro w hSw; (try dsimp only at hSw); go_simp; try with_reducible rfl⟩) (by assumption) ?_
      try simp only [Act.put, List.setIfInBounds_toArray, List.set_cons_zero, List.set_cons_succ]
      refine takeL (i := 3) (v := _) rfl (by kernel_rfl) (by kernel_rfl) (by kernel_rfl) (fun _ _ _ h => h) (Or.inl ⟨by rfl, by intro w hSw; (try dsimp only at hSw); go_simp; try with_reducible rfl⟩) (by assumption) ?_
      try simp only [Act.put, List.setIfInBounds_toArray, List.set_cons_zero, List.set_cons_succ]
      refine takeL (i := 4) (v := _) rfl (by kernel_rfl) (by kernel_rfl) (by kernel_rfl) (fun _ _ _ h => h) (Or.inl ⟨by rfl, by intro w hSw; (try dsimp only at hSw); go_simp; try with_reducible rfl⟩) (by assumption) ?_
      try simp only [Act.put, List.setIfInBounds_toArray, List.set_cons_zero, List.set_cons_succ]
      refine takeL (i := 5) (v := _) rfl (by kernel_rfl) (by kernel_rfl) (by kernel_rfl) (fun _ _ _ h => h) (Or.inl ⟨by rfl, by intro w hSw; (try dsimp only at hSw); go_simp; try with_reducible rfl⟩) (by assumption) ?_
      try simp only [Act.put, List.setIfInBounds_toArray, List.set_cons_zero, List.set_cons_succ]
      refine takeL (i := 6) (v := _) rfl (by kernel_rfl) (by kernel_rfl) (by kernel_rfl) (fun _ _ _ h => h) (Or.inl ⟨by rfl, by intro w hSw; (try dsimp only at hSw); go_simp; try with_reducible rfl⟩) (by assumption) ?_
      try simp only [Act.put, List.setIfInBounds_toArray, List.set_cons_zero, List.set_cons_succ]
      refine takeL (i := 7) (v := _) rfl (by kernel_rfl) (by kernel_rfl) (by kernel_rfl) (fun _ _ _ h => h) (Or.inl ⟨by rfl, by intro w hSw; (try dsimp only at hSw); go_simp; try with_reducible rfl⟩) (by assumption) ?_
      try simp only [Act.put, List.setIfInBounds_toArray, List.set_cons_zero, List.set_cons_succ]
      refine takeL (i := 8) (v := _) rfl (by kernel_rfl) (by kernel_rfl) (by kernel_rfl) (fun _ _ _ h => h) (Or.inl ⟨by rfl, by intro w hSw; (try dsimp only at hSw); go_simp; try with_reducible rfl⟩) (by assumption) ?_
      try simp only [Act.put, List.setIfInBounds_toArray, List.set_cons_zero, List.set_cons_succ]
      refine takeL (i := 10) (v := _) rfl (by kernel_rfl) (by kernel_rfl) (by kernel_rfl) (fun _ _ _ h => h) (Or.inl ⟨by rfl, by intro w hSw; (try dsimp only at hSw); go_simp; try with_reducible rfl⟩) (by assumption) ?_
      try simp only [Act.put, List.setIfInBounds_toArray, List.set_cons_zero, List.set_cons_succ]
      refine onlyL (i := 9) rfl (by kernel_rfl) (fun K hK => ?_)
      go_simp
      refine (HFW.out v0 HMv.out.is HSv.out).mono ?_
      rintro e w2 ⟨rfl, rfl⟩
      refine (fun hHeld => hK _ _ hHeld ?_) (hHeld)
      clear hK
      try simp only [Act.put, List.setIfInBounds_toArray, List.set_cons_zero, List.set_cons_succ]
      refine takeL (i := 11) (v := _) rfl (by kernel_rfl) (by kernel_rfl) (by kernel_rfl) (fun _ _ _ h => h) (Or.inl ⟨by rfl, by intro w hSw; (try dsimp only at hSw); go_simp; try with_reducible rfl⟩) (by assumption) ?_
      try simp only [Act.put, List.setIfInBounds_toArray, List.set_cons_zero, List.set_cons_succ]
      refine onlyL (i := 12) rfl (by kernel_rfl) (fun K hK => ?_)
      go_simp
      have hmr := mine_read HE.out HMv.out HOK.out (I : Nat)
      rw [HRD.out.1.1, HRD.out.1.2, HRD.out.2.1.1, HNO.out] at hmr
      refine hmr.mono ?_
      clear hmr
      rintro e w3 ⟨ar, cr, rfl, hor, hM3, hk3, hf3⟩
      refine (fun hHeld => hK _ _ hHeld ?_) (⟨hk3.cell hHeld.1 (fun h => h), hk3.cell hHeld.2 (fun h => h)⟩)
      clear hK
      try simp only [Act.put, List.setIfInBounds_toArray, List.set_cons_zero, List.set_cons_succ]
      refine takeL (i := 13) (v := _) rfl (by kernel_rfl) (by kernel_rfl) (by kernel_rfl) (fun _ _ _ h => h) (Or.inl ⟨by rfl, by intro w hSw; (try dsimp only at hSw); go_simp; try with_reducible rfl⟩) (by assumption) ?_
      try simp only [Act.put, List.setIfInBounds_toArray, List.set_cons_zero, List.set_cons_succ]
      refine takeL (i := 14) (v := _) rfl (by kernel_rfl) (by kernel_rfl) (by kernel_rfl) (fun _ _ _ h => h) (Or.inl ⟨by rfl, by intro w hSw; (try dsimp only at hSw); go_simp; try with_reducible rfl⟩) (by assumption) ?_
      try simp only [Act.put, List.setIfInBounds_toArray, List.set_cons_zero, List.set_cons_succ]
      refine takeL (i := 15) (v := _) rfl (by kernel_rfl) (by kernel_rfl) (by kernel_rfl) (fun _ _ _ h => h) (Or.inl ⟨by rfl, by intro w hSw; (try dsimp only at hSw); go_simp; try with_reducible rfl⟩) (by assumption) ?_
      try simp only [Act.put, List.setIfInBounds_toArray, List.set_cons_zero, List.set_cons_succ]
      refine takeL (i := 16) (v := _) rfl (by kernel_rfl) (by kernel_rfl) (by kernel_rfl) (fun _ _ _ h => h) (Or.inl ⟨by rfl, by intro w hSw; (try dsimp only at hSw); go_simp; try with_reducible rfl⟩) (by assumption) ?_
      try simp only [Act.put, List.setIfInBounds_toArray, List.set_cons_zero, List.set_cons_succ]
      refine takeL (i := 17) (v := _) rfl (by kernel_rfl) (by kernel_rfl) (by kernel_rfl) (fun _ _ _ h => h) (Or.inl ⟨by rfl, by intro w hSw; (try dsimp only at hSw); go_simp; try with_reducible rfl⟩) (by assumption) ?_
      try simp only [Act.put, List.setIfInBounds_toArray, List.set_cons_zero, List.set_cons_succ]
      refine wpAnyH_done (by kernel_rfl) ?_ _
      have HR3 := Lib.hid (And.intro hor (And.intro (HKv.out.trans hk3) (HOv.out.keep0 hk3)))
      clear hHeld hor hM3 hk3 hf3 HMv HSv HKv HOv
      have HSR := Lib.hid (HR3.out.1.src (fun u hu => by obtain ⟨x, _, rfl⟩ := List.mem_map.1 hu; rfl))
      go_wp2_with (at_builtin; go_must (refine wpl_append rfl _ _ 25 rfl 5 1 1 Tryd.underlying25 Tryd.info8s (by omega) ao co no _ rfl HR3.out.2.2 ar 128 cr (byteV (lastV (d.at_ I))) rfl HSR.out (by unfold maxLen; omega) (by omega) ?_))
      intro a5 c5 w5 hO5 hk5 hf5 _
      have HX := Lib.hid (And.intro (show Own w5 5 1 a5 c5 (no + 128) (byteV (d.loadTo s (j + 1))) by rw [HRD.out.2.2, byteV_append]; exact hO5) (And.intro (HR3.out.2.1.step hk5 (fun k hk => .inr (hfr.out k hk))) (fun k (hk : blkOf a5 k) => (hf5 k hk).elim (hfr.out k) (fun e => by have := HR3.out.2.1.size; omega))))
      clear hO5 hk5 hf5
      go_wp2_with fail
      exact ⟨⟨j + 1, a5, no + 128, c5, by go_num, by omega, rfl, Lib.hid (by have := hno.out; omega), Lib.hid HX.out.1, Lib.hid HX.out.2.1, Lib.hid HX.out.2.2⟩, by first | (simp [intOf]; done) | (simp [intOf]; omega)⟩
    · obtain rfl : j = T := by omega
      have hjj : ¬ ((j : Int) < j) := by omega
      have c3r := hkj.out.cell c3 (fun h => h)
      have hll := loadTo_len HOK.out s j (by rw [← HFF.out]; exact hf)
      have hnoj := hno.out
      have hcap := hO.out.2.1
      have hcx := hO.out.2.2.1
      unfold maxLen at hcx
      have hsm : (s.many : Int) ≤ co := by omega
      have hrow := (hO.out.row (areB_wf hll.2)).head (m := s.many) (by omega)
      have htl : ((d.loadTo s j).take s.many).length = s.many := by rw [List.length_take, hll.1]; omega
      rw [← HLV.out] at hrow htl
      have HC := Lib.hid (cloneB_walk (cap := co) hrow (fun e => by
        have h := hO.out
        rw [e] at h
        have := h.nilS
        omega) (by omega))
      have HTL := Lib.hid (And.intro htl hkj.out)
      clear hll hrow htl hO hkj hnoj c3
      go_wp2_with fail
      refine HC.out.mono ?_
      rintro e w3 ⟨a3, c3', rfl, ho3, hk3, hf3⟩
      have HF := Lib.hid (And.intro ho3 (And.intro (HTL.out.2.trans hk3) (fun k (hk : blkOf a3 k) => Nat.le_trans HTL.out.2.size (hf3 k hk))))
      clear ho3 hk3 hf3
      go_wp2_with fail
      go_ret2
      exact ⟨a3, c3', rfl, HF.out.1, HF.out.2.1, HF.out.2.2⟩
end Go.Proofs.YtkefbgkdkmkghaaDoor
