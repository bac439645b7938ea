/-
  SlotsHeads: a head that can't be is told.
-/
import Derived.Test.YtkefbgkdkmkghaaDoorSlotsSt
namespace Go.Proofs.YtkefbgkdkmkghaaDoor
set_option linter.unusedSimpArgs false
set_option linter.unusedVariables false
open Go.RowKit

theorem is_store {w : World} {p : Nat → Addr} (hE : Errs w p) : Calls Tryd.prog 21 #[errV p 7, .int .i64 108] w fun e w' => e = .returned (.bool true) ∧ Keeps Nil w w' :=
  (is_walk hE (isErr_O (some 7) (fun k hk => by cases hk; omega)) 108).mono (by
    rintro e w' ⟨he, hk⟩
    exact ⟨he.trans (by rw [show (108 : Int) = codeO (some 7) from rfl, isV_O]), hk⟩)
theorem and127_fin : ∀ n : Fin 256, 0 ≤ bits BinOp.and IntKind.u8 (n.val : Int) 127 ∧ bits BinOp.and IntKind.u8 (n.val : Int) 127 ≤ 127 := by decide +kernel
theorem and127 {y : Int} (hy : 0 ≤ y ∧ y ≤ 255) : 0 ≤ bits BinOp.and IntKind.u8 y 127 ∧ bits BinOp.and IntKind.u8 y 127 ≤ 127 := by
  have h := and127_fin ⟨y.toNat, by omega⟩
  rw [show ((y.toNat : Nat) : Int) = y by omega] at h
  exact h
/-- What stands behind the thirteen bytes of a head. -/
def restZ : List Int := List.replicate 115 0
theorem head_rest (s : Sv) : headL s = magicL ++ le4s s.seq ++ [(s.half : Int) % 256] ++ le4s s.many ++ restZ := rfl
theorem restZ_at (j : Nat) : restZ.getD j 0 = 0 := by
  unfold restZ
  rw [List.getD_eq_getElem?_getD, List.getElem?_replicate]
  split <;> rfl
theorem restZ_len : restZ.length = 115 := by simp [restZ]
theorem restZ_bytes : AreB restZ := fun x hx => by unfold restZ at hx; rw [List.eq_of_mem_replicate hx]; omega
theorem bent {d : Dk} {B : List Int} (h67 : B.getD 0 0 = 67) (h : ¬ okHead d (rawSv B) B) : d.parse B = none := by
  unfold Dk.parse
  rw [if_neg (fun e => by
    have h2 : zsec.getD 0 0 = 0 := by unfold zsec; simp [List.getD]
    rw [e] at h67; omega), if_neg h]
/-- A head that no state has on nine sectors. -/
def Bent (B : List Int) : Prop := ∀ d : Dk, d.vs.length = 9 → d.parse B = none
theorem bent_0 {Z : List Int} : Bent ([67, 79, 86, 82, 1, 0, 0, 0, 0, 3, 0, 0, 0] ++ Z) := fun d _ => bent rfl (fun h => by
  have h1 := h.1
  have h2 : ([67, 79, 86, 82, 1, 0, 0, 0, 0, 3, 0, 0, 0] ++ Z : List Int).getD 2 0 = 86 := rfl
  rw [h1, head_rest] at h2
  exact absurd h2 (by show ¬ (85 : Int) = 86; omega))
theorem bent_1 {Z : List Int} : Bent ([67, 79, 85, 82, 0, 0, 0, 0, 0, 3, 0, 0, 0] ++ Z) := fun d _ => bent rfl (fun h => h.2.1 rfl)
theorem bent_2 {Z : List Int} {x : Int} (hx : 2 ≤ x) : Bent ([67, 79, 85, 82, 1, 0, 0, 0, x, 3, 0, 0, 0] ++ Z) := fun d _ => bent rfl (fun h => by
  have h1 : x.toNat ≤ 1 := h.2.2.1
  omega)
theorem bent_3 {Z : List Int} : Bent ([67, 79, 85, 82, 1, 0, 0, 0, 0, 3, 9, 0, 0] ++ Z) := fun d hd => bent rfl (fun h => by
  have h1 : (2307 : Nat) ≤ d.room := h.2.2.2
  rw [room_eq hd] at h1
  omega)
theorem bent_4 {j : Nat} (hj : j < 115) : Bent ([67, 79, 85, 82, 1, 0, 0, 0, 0, 3, 0, 0, 0] ++ restZ.set j 1) := fun d _ => bent rfl (fun h => by
  have h1 := h.1
  have h2 : ([67, 79, 85, 82, 1, 0, 0, 0, 0, 3, 0, 0, 0] ++ restZ.set j 1 : List Int).getD (13 + j) 0 = 1 := by
    rw [List.getD_eq_getElem?_getD, List.getElem?_append_right (by simp), show 13 + j - [67, 79, 85, 82, 1, 0, 0, 0, 0, 3, 0, 0, (0 : Int)].length = j by simp, List.getElem?_set_self (by rw [restZ_len]; exact hj)]
    rfl
  rw [h1, head_rest] at h2
  generalize rawSv _ = s at h2
  rw [List.getD_eq_getElem?_getD, List.getElem?_append_right (by simp [magicL, le4s]), show 13 + j - (magicL ++ le4s s.seq ++ [(s.half : Int) % 256] ++ le4s s.many).length = j by simp [magicL, le4s], ← List.getD_eq_getElem?_getD, restZ_at] at h2
  omega)
theorem bent_disk {d : Dk} {B : List Int} (hd : d.vs.length = 9) (h : Bent B) : (d.put 0 B).settle.parse (lastV ((d.put 0 B).settle.at_ 0)) = none := by
  have hl : (d.put 0 B).vs.length = 9 := by show (d.vs.set _ _).length = 9; rw [List.length_set]; exact hd
  rw [settle_at (by rw [hl]; omega), put_at (by rw [hd]; omega), if_pos rfl, lastV_snoc]
  exact h _ (by show (List.map _ _).length = 9; rw [List.length_map]; exact hl)
theorem headH : headL ⟨1, 0, 3⟩ = [67, 79, 85, 82, 1, 0, 0, 0, 0, 3, 0, 0, 0] ++ restZ := rfl
set_option maxRecDepth 100000 in
set_option maxHeartbeats 6400000 in
theorem slotsHeads_walk (a y : Int) (w : World) {p : Nat → Addr} (wf0 : (Lit.int .i64 a).wf = true) (wf1 : (Lit.int .u8 y).wf = true) (hE : Errs w p) :
    Calls Tryd.prog 7 #[.int .i64 a, .int .u8 y] w fun e w' => e = .returned (.bool true) ∧ Keeps Nil w w' := by
  have HE := Lib.hid hE
  have HFI := Lib.hid (slotsfirst_walk hE)
  have ha := i64_wf wf0
  have hy := u8_wf wf1
  obtain ⟨q, hq⟩ : ∃ q : Nat, a % 5 = (q : Int) := ⟨(a % 5).toNat, by omega⟩
  have hq1 : q ≤ 4 := by omega
  have HQ := Lib.hid hq
  have HNA := Lib.hid (fun w => number_walk a 5 w ha.1 ha.2 (by omega) (by omega))
  have hnw := fun w => new_walk w 9
  rw [show newN 9 = 9 by decide] at hnw
  have HNW := Lib.hid hnw
  have HNO : Hid (errO p none = .nilIface) := Lib.hid rfl
  clear hE ha hq hnw wf0 wf1
  go_enter Tryd.func7, Tryd.ntmps7
  go_wp2_with fail
  refine HFI.out.mono ?_
  rintro e w1 ⟨rfl, hk1⟩
  have HK1 := Lib.hid hk1
  clear HFI hk1
  go_wp2_with fail
  refine (HNW.out w1).mono ?_
  rintro e w2 hN
  obtain ⟨pp, R, rfl, hMi⟩ := hN.mine
  have HEW := Lib.hid (HE.out.keep HK1.out)
  have HO := Lib.hid (open_new HEW.out hMi (by omega) (by omega))
  clear hN hMi HNW
  go_wp2_with fail
  refine HO.out.mono ?_
  rintro e w3 ⟨g, R3, rfl, hS3, _, _⟩
  have HS3 := Lib.hid hS3
  have HL3 : Hid (((Dk.new 9).cleaned ⟨0, 0, 0⟩).left = -1) := Lib.hid (cleaned_left _ _).1
  generalize (Dk.new 9).cleaned ⟨0, 0, 0⟩ = d3 at *
  clear hS3 HO
  have hb5 : Blk (w3.alloc (.cells #[.int .u8 1, .int .u8 2, .int .u8 3] 5)) w3.heap.size (byteV [1, 2, 3]) 5 := Blk.new w3 [.int .u8 1, .int .u8 2, .int .u8 3] 5
  have hk5 : Keeps Nil w3 (w3.alloc (.cells #[.int .u8 1, .int .u8 2, .int .u8 3] 5)) := (Keeps.refl _ _).alloc _
  have hr5 := hb5.row8 (n := 3) (l := [1, 2, 3]) (fun x hx => by simp at hx; omega) rfl (by omega)
  have hR5 : R3 w3.heap.size = 0 := HS3.out.mine.later (Nat.le_refl _)
  have HSV := Lib.hid (save_free HEW.out (HS3.out.nil hk5) HL3.out (cb := 3) hr5 (by simp) (by omega) (fun _ x hx => by rw [(blkOf_some _ _ _ _).1 hx]; exact hR5) (by simp) (by simp))
  clear hb5 hk5 hr5 hR5
  go_wp2_with (refine wpList_bs rfl 25 5 3 _ rfl [.int .u8 1, .int .u8 2, .int .u8 3] Tryd.underlying25 Tryd.bs8 rfl (by decide) (by decide) rfl (by simp [Value.cells]) ?_)
  refine HSV.out.mono ?_
  rintro e w5 ⟨R5, D5, rfl, hS5, hl5, _, _⟩
  have HS5 := Lib.hid hS5
  have HL5 := Lib.hid hl5
  have hrd : D5.readE 0 = none ∧ D5.readV 0 = headL ⟨1, 0, 3⟩ := by
    have h : D5.readE 0 = none ∧ D5.readV 0 = lastV (D5.at_ 0) := readOn (d := D5) hS5.off (i := 0) (by rw [hS5.len]; omega)
    rw [hS5.clean.at_ 0 (by omega)] at h
    exact h
  rw [headH] at hrd
  obtain ⟨Z, hZ⟩ : ∃ Z, Z = restZ := ⟨_, rfl⟩
  rw [← hZ] at hrd
  have hZl : Z.length = 115 := by rw [hZ, restZ_len]
  have hZb : AreB Z := by rw [hZ]; exact restZ_bytes
  have hZ4 : ∀ j, j < 115 → Bent ([67, 79, 85, 82, 1, 0, 0, 0, 0, 3, 0, 0, 0] ++ Z.set j 1) := fun j hj => by rw [hZ]; exact bent_4 hj
  have hmr := mine_read HEW.out.e2 hS5.mine hS5.ok 0
  rw [hrd.1, hrd.2, HNO.out] at hmr
  obtain ⟨H, hH⟩ : ∃ H, H = [67, 79, 85, 82, 1, 0, 0, 0, 0, 3, 0, 0, 0] ++ Z := ⟨_, rfl⟩
  have hHl : H.length = 128 := by rw [hH, List.length_append, hZl]; rfl
  rw [← hH, hHl] at hmr
  have HMR := Lib.hid hmr
  have HZ := Lib.hid (And.intro hZl (And.intro hZb hZ4))
  have HH := Lib.hid hH
  have HHL := Lib.hid hHl
  clear hS5 hl5 hrd hZ hZl hZb hZ4 hmr hH hHl HSV HS3
  go_wp2_with fail
  refine HMR.out.mono ?_
  rintro e w6 ⟨ah, ch, rfl, hoh, hM6, hk6, hf6⟩
  obtain ⟨gh, hgh, hghl, _⟩ := hoh.some (by omega)
  subst hgh
  have HM6 := Lib.hid hM6
  have HO6 := Lib.hid hoh
  have hgf := hf6 gh ((blkOf_some _ _ _ _).2 rfl)
  have HGH := Lib.hid (show R5 gh = 0 ∧ w1.heap.size ≤ gh from ⟨HS5.out.mine.later hgf, Nat.le_trans HS5.out.mine.keeps.size hgf⟩)
  clear hoh hM6 hk6 hf6 hgf HMR
  go_wp2_with fail
  refine (HNA.out w6).mono ?_
  rintro e w7 ⟨rfl, rfl⟩
  rw [HQ.out]
  have hcv : ∀ i, i < 13 → (byteV H)[i]? = some (.int .u8 ([67, 79, 85, 82, 1, 0, 0, 0, 0, 3, 0, 0, 0].getD i 0)) := fun i hi => by
    rw [HH.out]
    unfold byteV
    rw [List.getElem?_map, List.getElem?_append_left (by simpa using hi), List.getD_eq_getElem?_getD, List.getElem?_eq_getElem (by simpa using hi)]
    rfl
  clear HNA
  obtain h0 | h0 | h0 | h0 | h0 : q = 0 ∨ q = 1 ∨ q = 2 ∨ q = 3 ∨ q = 4 := by omega
  · subst h0
    have c2 := HO6.out.cellAt 2 (hcv 2 (by omega))
    have z2 := HO6.out.frozen 2
    obtain ⟨B, hBe⟩ : ∃ B, B = [67, 79, 86, 82, 1, 0, 0, 0, 0, 3, 0, 0, 0] ++ Z := ⟨_, rfl⟩
    have hO7 : Own (w6.setCell ⟨gh, 2, none⟩ (.int .u8 86)) 5 1 (some ⟨gh, 0, none⟩) ch 128 (byteV B) := by
      have := HO6.out.setCell 2 (by unfold byteV; rw [List.length_map, HHL.out]; omega) (.int .u8 86)
      rw [show (byteV H).set 2 (.int .u8 86) = byteV B from by rw [HH.out, hBe]; rfl] at this
      exact this
    have hk7 : Keeps (One gh) w6 (w6.setCell ⟨gh, 2, none⟩ (.int .u8 86)) := (Keeps.refl (One gh) w6).setOne 2 _
    have hB : AreB B ∧ B.length = 128 ∧ Bent B := by
      rw [hBe]
      exact ⟨areB_append (fun x hx => by simp at hx; omega) HZ.out.2.1, by rw [List.length_append, HZ.out.1]; rfl, bent_0⟩
    clear hcv hBe
    go_upto_region 23 with fail
    generalize w6.setCell _ _ = w7 at *
    have HB := Lib.hid hB
    have hM7 := HM6.out.other hk7 HGH.out.1 HGH.out.2
    have hmw := mine_write HEW.out.e2 hM7 HS5.out.ok (by omega) 0 (cb := ch) (hO7.row (areB_wf HB.out.1))
    have hwf : D5.write 0 B = (D5.put 0 B, none) := write_free (d := D5) HS5.out.off HL5.out (i := 0) (b := B) (by rw [HS5.out.len]; omega) HB.out.2.1
    have hok6 := HS5.out.ok.write 0 HB.out.1
    rw [hwf] at hok6
    rw [hwf, HNO.out] at hmw
    have HMW := Lib.hid hmw
    have HOK := Lib.hid hok6
    have hpn := bent_disk HS5.out.len HB.out.2.2
    have HOF : Hid ((D5.put 0 B).off = false ∧ (D5.put 0 B).left = -1 ∧ (D5.put 0 B).vs.length = 9) := Lib.hid ⟨HS5.out.off, HL5.out, by show (D5.vs.set _ _).length = 9; rw [List.length_set]; exact HS5.out.len⟩
    generalize D5.put 0 B = D6 at *
    have HPN := Lib.hid hpn
    clear hB hM7 hmw hwf hO7 hk7 HM6 HO6 hok6 hpn
    go_wp2_with fail
    refine HMW.out.mono ?_
    rintro e w8 ⟨R8, rfl, hM8, _⟩
    have hms := mine_sync HEW.out.e2 hM8 HOK.out (by omega)
    have hsf := sync_free HOF.out.1 HOF.out.2.1
    have hok8 := HOK.out.sync (by omega)
    rw [hsf] at hok8
    rw [hsf, HNO.out] at hms
    have HMS := Lib.hid hms
    have HOK8 := Lib.hid hok8
    clear hM8 hms hsf hok8 HMW
    go_wp2_with fail
    refine HMS.out.mono ?_
    rintro e w9 ⟨rfl, hM9, _⟩
    have hop := open_walk HEW.out hM9 HOK8.out (by omega) HOF.out.1 HOF.out.2.1 (by show 1 ≤ (List.map _ _).length; rw [List.length_map, HOF.out.2.2]; omega)
    rw [HPN.out] at hop
    have HOP := Lib.hid hop
    have HM9 := Lib.hid hM9
    clear hop hM9 HMS
    go_wp2_with fail
    refine HOP.out.mono ?_
    rintro e w10 ⟨rfl, hk10⟩
    have HM10 := Lib.hid (HM9.out.nil hk10)
    have HIS := Lib.hid (is_store (HEW.out.keep HM10.out.keeps))
    clear hk10 HOP HM9
    go_wp2_with fail
    refine HIS.out.mono ?_
    rintro e w11 ⟨rfl, hk11⟩
    have HF := Lib.hid (HK1.out.trans (HM10.out.keeps.trans hk11))
    clear hk11 HIS HM10
    go_wp2_with fail
    go_ret
    exact ⟨rfl, HF.out⟩
  · subst h0
    have c2 := HO6.out.cellAt 4 (hcv 4 (by omega))
    have z2 := HO6.out.frozen 4
    obtain ⟨B, hBe⟩ : ∃ B, B = [67, 79, 85, 82, 0, 0, 0, 0, 0, 3, 0, 0, 0] ++ Z := ⟨_, rfl⟩
    have hO7 : Own (w6.setCell ⟨gh, 4, none⟩ (.int .u8 0)) 5 1 (some ⟨gh, 0, none⟩) ch 128 (byteV B) := by
      have := HO6.out.setCell 4 (by unfold byteV; rw [List.length_map, HHL.out]; omega) (.int .u8 0)
      rw [show (byteV H).set 4 (.int .u8 0) = byteV B from by rw [HH.out, hBe]; rfl] at this
      exact this
    have hk7 : Keeps (One gh) w6 (w6.setCell ⟨gh, 4, none⟩ (.int .u8 0)) := (Keeps.refl (One gh) w6).setOne 4 _
    have hB : AreB B ∧ B.length = 128 ∧ Bent B := by
      rw [hBe]
      exact ⟨areB_append (fun x hx => by simp at hx; omega) HZ.out.2.1, by rw [List.length_append, HZ.out.1]; rfl, bent_1⟩
    clear hcv hBe
    go_upto_region 23 with fail
    generalize w6.setCell _ _ = w7 at *
    have HB := Lib.hid hB
    have hM7 := HM6.out.other hk7 HGH.out.1 HGH.out.2
    have hmw := mine_write HEW.out.e2 hM7 HS5.out.ok (by omega) 0 (cb := ch) (hO7.row (areB_wf HB.out.1))
    have hwf : D5.write 0 B = (D5.put 0 B, none) := write_free (d := D5) HS5.out.off HL5.out (i := 0) (b := B) (by rw [HS5.out.len]; omega) HB.out.2.1
    have hok6 := HS5.out.ok.write 0 HB.out.1
    rw [hwf] at hok6
    rw [hwf, HNO.out] at hmw
    have HMW := Lib.hid hmw
    have HOK := Lib.hid hok6
    have hpn := bent_disk HS5.out.len HB.out.2.2
    have HOF : Hid ((D5.put 0 B).off = false ∧ (D5.put 0 B).left = -1 ∧ (D5.put 0 B).vs.length = 9) := Lib.hid ⟨HS5.out.off, HL5.out, by show (D5.vs.set _ _).length = 9; rw [List.length_set]; exact HS5.out.len⟩
    generalize D5.put 0 B = D6 at *
    have HPN := Lib.hid hpn
    clear hB hM7 hmw hwf hO7 hk7 HM6 HO6 hok6 hpn
    go_wp2_with fail
    refine HMW.out.mono ?_
    rintro e w8 ⟨R8, rfl, hM8, _⟩
    have hms := mine_sync HEW.out.e2 hM8 HOK.out (by omega)
    have hsf := sync_free HOF.out.1 HOF.out.2.1
    have hok8 := HOK.out.sync (by omega)
    rw [hsf] at hok8
    rw [hsf, HNO.out] at hms
    have HMS := Lib.hid hms
    have HOK8 := Lib.hid hok8
    clear hM8 hms hsf hok8 HMW
    go_wp2_with fail
    refine HMS.out.mono ?_
    rintro e w9 ⟨rfl, hM9, _⟩
    have hop := open_walk HEW.out hM9 HOK8.out (by omega) HOF.out.1 HOF.out.2.1 (by show 1 ≤ (List.map _ _).length; rw [List.length_map, HOF.out.2.2]; omega)
    rw [HPN.out] at hop
    have HOP := Lib.hid hop
    have HM9 := Lib.hid hM9
    clear hop hM9 HMS
    go_wp2_with fail
    refine HOP.out.mono ?_
    rintro e w10 ⟨rfl, hk10⟩
    have HM10 := Lib.hid (HM9.out.nil hk10)
    have HIS := Lib.hid (is_store (HEW.out.keep HM10.out.keeps))
    clear hk10 HOP HM9
    go_wp2_with fail
    refine HIS.out.mono ?_
    rintro e w11 ⟨rfl, hk11⟩
    have HF := Lib.hid (HK1.out.trans (HM10.out.keeps.trans hk11))
    clear hk11 HIS HM10
    go_wp2_with fail
    go_ret
    exact ⟨rfl, HF.out⟩
  · subst h0
    obtain ⟨x, hx⟩ : ∃ x, bits .and .u8 y 127 = x := ⟨_, rfl⟩
    have hxb : 0 ≤ x ∧ x ≤ 127 := by rw [← hx]; exact and127 hy
    have hx2 : IntKind.u8.wrap (2 + x) = 2 + x := by rw [IntKind.wrap_u8]; omega
    have c2 := HO6.out.cellAt 8 (hcv 8 (by omega))
    have z2 := HO6.out.frozen 8
    obtain ⟨B, hBe⟩ : ∃ B, B = [67, 79, 85, 82, 1, 0, 0, 0, 2 + x, 3, 0, 0, 0] ++ Z := ⟨_, rfl⟩
    have hO7 : Own (w6.setCell ⟨gh, 8, none⟩ (.int .u8 (2 + x))) 5 1 (some ⟨gh, 0, none⟩) ch 128 (byteV B) := by
      have := HO6.out.setCell 8 (by unfold byteV; rw [List.length_map, HHL.out]; omega) (.int .u8 (2 + x))
      rw [show (byteV H).set 8 (.int .u8 (2 + x)) = byteV B from by rw [HH.out, hBe]; rfl] at this
      exact this
    have hk7 : Keeps (One gh) w6 (w6.setCell ⟨gh, 8, none⟩ (.int .u8 (2 + x))) := (Keeps.refl (One gh) w6).setOne 8 _
    have hB : AreB B ∧ B.length = 128 ∧ Bent B := by
      rw [hBe]
      exact ⟨areB_append (fun x hx => by simp at hx; omega) HZ.out.2.1, by rw [List.length_append, HZ.out.1]; rfl, bent_2 (by omega)⟩
    clear hcv hBe
    go_upto_region 23 with fail
    generalize w6.setCell _ _ = w7 at *
    have HB := Lib.hid hB
    have hM7 := HM6.out.other hk7 HGH.out.1 HGH.out.2
    have hmw := mine_write HEW.out.e2 hM7 HS5.out.ok (by omega) 0 (cb := ch) (hO7.row (areB_wf HB.out.1))
    have hwf : D5.write 0 B = (D5.put 0 B, none) := write_free (d := D5) HS5.out.off HL5.out (i := 0) (b := B) (by rw [HS5.out.len]; omega) HB.out.2.1
    have hok6 := HS5.out.ok.write 0 HB.out.1
    rw [hwf] at hok6
    rw [hwf, HNO.out] at hmw
    have HMW := Lib.hid hmw
    have HOK := Lib.hid hok6
    have hpn := bent_disk HS5.out.len HB.out.2.2
    have HOF : Hid ((D5.put 0 B).off = false ∧ (D5.put 0 B).left = -1 ∧ (D5.put 0 B).vs.length = 9) := Lib.hid ⟨HS5.out.off, HL5.out, by show (D5.vs.set _ _).length = 9; rw [List.length_set]; exact HS5.out.len⟩
    generalize D5.put 0 B = D6 at *
    have HPN := Lib.hid hpn
    clear hB hM7 hmw hwf hO7 hk7 HM6 HO6 hok6 hpn
    go_wp2_with fail
    refine HMW.out.mono ?_
    rintro e w8 ⟨R8, rfl, hM8, _⟩
    have hms := mine_sync HEW.out.e2 hM8 HOK.out (by omega)
    have hsf := sync_free HOF.out.1 HOF.out.2.1
    have hok8 := HOK.out.sync (by omega)
    rw [hsf] at hok8
    rw [hsf, HNO.out] at hms
    have HMS := Lib.hid hms
    have HOK8 := Lib.hid hok8
    clear hM8 hms hsf hok8 HMW
    go_wp2_with fail
    refine HMS.out.mono ?_
    rintro e w9 ⟨rfl, hM9, _⟩
    have hop := open_walk HEW.out hM9 HOK8.out (by omega) HOF.out.1 HOF.out.2.1 (by show 1 ≤ (List.map _ _).length; rw [List.length_map, HOF.out.2.2]; omega)
    rw [HPN.out] at hop
    have HOP := Lib.hid hop
    have HM9 := Lib.hid hM9
    clear hop hM9 HMS
    go_wp2_with fail
    refine HOP.out.mono ?_
    rintro e w10 ⟨rfl, hk10⟩
    have HM10 := Lib.hid (HM9.out.nil hk10)
    have HIS := Lib.hid (is_store (HEW.out.keep HM10.out.keeps))
    clear hk10 HOP HM9
    go_wp2_with fail
    refine HIS.out.mono ?_
    rintro e w11 ⟨rfl, hk11⟩
    have HF := Lib.hid (HK1.out.trans (HM10.out.keeps.trans hk11))
    clear hk11 HIS HM10
    go_wp2_with fail
    go_ret
    exact ⟨rfl, HF.out⟩
  · subst h0
    have c2 := HO6.out.cellAt 10 (hcv 10 (by omega))
    have z2 := HO6.out.frozen 10
    obtain ⟨B, hBe⟩ : ∃ B, B = [67, 79, 85, 82, 1, 0, 0, 0, 0, 3, 9, 0, 0] ++ Z := ⟨_, rfl⟩
    have hO7 : Own (w6.setCell ⟨gh, 10, none⟩ (.int .u8 9)) 5 1 (some ⟨gh, 0, none⟩) ch 128 (byteV B) := by
      have := HO6.out.setCell 10 (by unfold byteV; rw [List.length_map, HHL.out]; omega) (.int .u8 9)
      rw [show (byteV H).set 10 (.int .u8 9) = byteV B from by rw [HH.out, hBe]; rfl] at this
      exact this
    have hk7 : Keeps (One gh) w6 (w6.setCell ⟨gh, 10, none⟩ (.int .u8 9)) := (Keeps.refl (One gh) w6).setOne 10 _
    have hB : AreB B ∧ B.length = 128 ∧ Bent B := by
      rw [hBe]
      exact ⟨areB_append (fun x hx => by simp at hx; omega) HZ.out.2.1, by rw [List.length_append, HZ.out.1]; rfl, bent_3⟩
    clear hcv hBe
    go_upto_region 23 with fail
    generalize w6.setCell _ _ = w7 at *
    have HB := Lib.hid hB
    have hM7 := HM6.out.other hk7 HGH.out.1 HGH.out.2
    have hmw := mine_write HEW.out.e2 hM7 HS5.out.ok (by omega) 0 (cb := ch) (hO7.row (areB_wf HB.out.1))
    have hwf : D5.write 0 B = (D5.put 0 B, none) := write_free (d := D5) HS5.out.off HL5.out (i := 0) (b := B) (by rw [HS5.out.len]; omega) HB.out.2.1
    have hok6 := HS5.out.ok.write 0 HB.out.1
    rw [hwf] at hok6
    rw [hwf, HNO.out] at hmw
    have HMW := Lib.hid hmw
    have HOK := Lib.hid hok6
    have hpn := bent_disk HS5.out.len HB.out.2.2
    have HOF : Hid ((D5.put 0 B).off = false ∧ (D5.put 0 B).left = -1 ∧ (D5.put 0 B).vs.length = 9) := Lib.hid ⟨HS5.out.off, HL5.out, by show (D5.vs.set _ _).length = 9; rw [List.length_set]; exact HS5.out.len⟩
    generalize D5.put 0 B = D6 at *
    have HPN := Lib.hid hpn
    clear hB hM7 hmw hwf hO7 hk7 HM6 HO6 hok6 hpn
    go_wp2_with fail
    refine HMW.out.mono ?_
    rintro e w8 ⟨R8, rfl, hM8, _⟩
    have hms := mine_sync HEW.out.e2 hM8 HOK.out (by omega)
    have hsf := sync_free HOF.out.1 HOF.out.2.1
    have hok8 := HOK.out.sync (by omega)
    rw [hsf] at hok8
    rw [hsf, HNO.out] at hms
    have HMS := Lib.hid hms
    have HOK8 := Lib.hid hok8
    clear hM8 hms hsf hok8 HMW
    go_wp2_with fail
    refine HMS.out.mono ?_
    rintro e w9 ⟨rfl, hM9, _⟩
    have hop := open_walk HEW.out hM9 HOK8.out (by omega) HOF.out.1 HOF.out.2.1 (by show 1 ≤ (List.map _ _).length; rw [List.length_map, HOF.out.2.2]; omega)
    rw [HPN.out] at hop
    have HOP := Lib.hid hop
    have HM9 := Lib.hid hM9
    clear hop hM9 HMS
    go_wp2_with fail
    refine HOP.out.mono ?_
    rintro e w10 ⟨rfl, hk10⟩
    have HM10 := Lib.hid (HM9.out.nil hk10)
    have HIS := Lib.hid (is_store (HEW.out.keep HM10.out.keeps))
    clear hk10 HOP HM9
    go_wp2_with fail
    refine HIS.out.mono ?_
    rintro e w11 ⟨rfl, hk11⟩
    have HF := Lib.hid (HK1.out.trans (HM10.out.keeps.trans hk11))
    clear hk11 HIS HM10
    go_wp2_with fail
    go_ret
    exact ⟨rfl, HF.out⟩
  · subst h0
    obtain ⟨j, hj⟩ : ∃ j : Nat, y % 115 = (j : Int) := ⟨(y % 115).toNat, by omega⟩
    have hj1 : j < 115 := by omega
    obtain ⟨t, ht⟩ : ∃ t, t = 13 + j := ⟨_, rfl⟩
    have hti : 13 + y % 115 = (t : Int) := by omega
    have htb : t < 128 := by omega
    have hcz : ∃ v, (byteV H)[t]? = some v := by
      unfold byteV
      rw [List.getElem?_map, List.getElem?_eq_getElem (by rw [HHL.out]; exact htb)]
      exact ⟨_, rfl⟩
    obtain ⟨cv, hcz⟩ := hcz
    have c2 := HO6.out.cellAt t hcz
    have z2 := HO6.out.frozen t
    obtain ⟨B, hBe⟩ : ∃ B, B = [67, 79, 85, 82, 1, 0, 0, 0, 0, 3, 0, 0, 0] ++ Z.set j 1 := ⟨_, rfl⟩
    have hO7 : Own (w6.setCell ⟨gh, t, none⟩ (.int .u8 1)) 5 1 (some ⟨gh, 0, none⟩) ch 128 (byteV B) := by
      have := HO6.out.setCell t (by unfold byteV; rw [List.length_map, HHL.out]; omega) (.int .u8 1)
      rw [show (byteV H).set t (.int .u8 1) = byteV B from by
        rw [HH.out, hBe, ht]
        unfold byteV
        rw [← List.map_set, List.set_append_right _ _ (by simp)]
        simp] at this
      exact this
    have hk7 : Keeps (One gh) w6 (w6.setCell ⟨gh, t, none⟩ (.int .u8 1)) := (Keeps.refl (One gh) w6).setOne t _
    have hB : AreB B ∧ B.length = 128 ∧ Bent B := by
      rw [hBe]
      refine ⟨areB_append (fun x hx => by simp at hx; omega) (fun x hx => ?_), by rw [List.length_append, List.length_set, HZ.out.1]; rfl, HZ.out.2.2 j hj1⟩
      rcases List.mem_or_eq_of_mem_set hx with h | h
      · exact HZ.out.2.1 x h
      · rw [h]; omega
    clear hcv hBe hj ht hcz
    go_upto_region 23 with fail
    generalize w6.setCell _ _ = w7 at *
    have HB := Lib.hid hB
    have hM7 := HM6.out.other hk7 HGH.out.1 HGH.out.2
    have hmw := mine_write HEW.out.e2 hM7 HS5.out.ok (by omega) 0 (cb := ch) (hO7.row (areB_wf HB.out.1))
    have hwf : D5.write 0 B = (D5.put 0 B, none) := write_free (d := D5) HS5.out.off HL5.out (i := 0) (b := B) (by rw [HS5.out.len]; omega) HB.out.2.1
    have hok6 := HS5.out.ok.write 0 HB.out.1
    rw [hwf] at hok6
    rw [hwf, HNO.out] at hmw
    have HMW := Lib.hid hmw
    have HOK := Lib.hid hok6
    have hpn := bent_disk HS5.out.len HB.out.2.2
    have HOF : Hid ((D5.put 0 B).off = false ∧ (D5.put 0 B).left = -1 ∧ (D5.put 0 B).vs.length = 9) := Lib.hid ⟨HS5.out.off, HL5.out, by show (D5.vs.set _ _).length = 9; rw [List.length_set]; exact HS5.out.len⟩
    generalize D5.put 0 B = D6 at *
    have HPN := Lib.hid hpn
    clear hB hM7 hmw hwf hO7 hk7 HM6 HO6 hok6 hpn
    go_wp2_with fail
    refine HMW.out.mono ?_
    rintro e w8 ⟨R8, rfl, hM8, _⟩
    have hms := mine_sync HEW.out.e2 hM8 HOK.out (by omega)
    have hsf := sync_free HOF.out.1 HOF.out.2.1
    have hok8 := HOK.out.sync (by omega)
    rw [hsf] at hok8
    rw [hsf, HNO.out] at hms
    have HMS := Lib.hid hms
    have HOK8 := Lib.hid hok8
    clear hM8 hms hsf hok8 HMW
    go_wp2_with fail
    refine HMS.out.mono ?_
    rintro e w9 ⟨rfl, hM9, _⟩
    have hop := open_walk HEW.out hM9 HOK8.out (by omega) HOF.out.1 HOF.out.2.1 (by show 1 ≤ (List.map _ _).length; rw [List.length_map, HOF.out.2.2]; omega)
    rw [HPN.out] at hop
    have HOP := Lib.hid hop
    have HM9 := Lib.hid hM9
    clear hop hM9 HMS
    go_wp2_with fail
    refine HOP.out.mono ?_
    rintro e w10 ⟨rfl, hk10⟩
    have HM10 := Lib.hid (HM9.out.nil hk10)
    have HIS := Lib.hid (is_store (HEW.out.keep HM10.out.keeps))
    clear hk10 HOP HM9
    go_wp2_with fail
    refine HIS.out.mono ?_
    rintro e w11 ⟨rfl, hk11⟩
    have HF := Lib.hid (HK1.out.trans (HM10.out.keeps.trans hk11))
    clear hk11 HIS HM10
    go_wp2_with fail
    go_ret
    exact ⟨rfl, HF.out⟩
end Go.Proofs.YtkefbgkdkmkghaaDoor
