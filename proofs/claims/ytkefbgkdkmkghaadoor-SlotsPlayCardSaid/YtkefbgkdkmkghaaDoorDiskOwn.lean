/-
  Chapter 9: DiskOwn's walk.
-/
import Derived.Test.YtkefbgkdkmkghaaDoorDiskFirst
import Derived.Test.YtkefbgkdkmkghaaDoorLaid
namespace Go.Proofs.YtkefbgkdkmkghaaDoor
set_option linter.unusedSimpArgs false
set_option linter.unusedVariables false
open Go.RowKit

/-- A walk's contract for Write, of a disk that the law made. -/
theorem mine_write {w0 w : World} {p : Nat} {R : Roles} {d : Dk} {pe : Nat → Addr} (hE : Err2 w0 pe) (h : Mine w0 w p R d) {m : Nat} (hok : d.Ok m) (hm : m ≤ 1000000) (i : Int) {ab : Option Addr} {n cb : Nat} {b : List Int} (hb : Row .u8 w ab n b) :
    Calls Tryd.prog 16 #[.pointer (some ⟨p, 0, none⟩), .int .i64 i, .slice ab n cb] w fun e w' => ∃ R', e = .returned (errO pe (d.write i b).2) ∧ Mine w0 w' p R' (d.write i b).1 ∧ Grew w w' R R' :=
  (write_walk (h.errs hE) h.is hok hm i hb).mono (by
    rintro e w' ⟨R', he, hD, hG⟩
    exact ⟨R', he, h.grew hD hG, hG⟩)
theorem mine_sync {w0 w : World} {p : Nat} {R : Roles} {d : Dk} {pe : Nat → Addr} (hE : Err2 w0 pe) (h : Mine w0 w p R d) {m : Nat} (hok : d.Ok m) (hm : m ≤ 1000000) :
    Calls Tryd.prog 17 #[.pointer (some ⟨p, 0, none⟩)] w fun e w' => e = .returned (errO pe d.sync.2) ∧ Mine w0 w' p R d.sync.1 ∧ Keeps (Wr R) w w' :=
  (sync_walk (h.errs hE) h.is hok hm).mono (by
    rintro e w' ⟨he, hD, hG⟩
    exact ⟨he, h.wrote hD hG, hG⟩)
theorem mine_read {w0 w : World} {p : Nat} {R : Roles} {d : Dk} {pe : Nat → Addr} (hE : Err2 w0 pe) (h : Mine w0 w p R d) {m : Nat} (hok : d.Ok m) (i : Int) :
    Calls Tryd.prog 18 #[.pointer (some ⟨p, 0, none⟩), .int .i64 i] w fun e w' => ∃ a cap, e = .returned (.tuple #[.slice a (d.readV i).length cap, errO pe (d.readE i)]) ∧ Own w' 5 1 a cap (d.readV i).length (byteV (d.readV i)) ∧ Mine w0 w' p R d ∧ Keeps Nil w w' ∧ ∀ k, blkOf a k → w.heap.size ≤ k :=
  (read_walk (h.err hE) h.is hok i).mono (by
    rintro e w' ⟨a, n, cap, he, ho, hl, hk, hf⟩
    subst hl
    exact ⟨a, cap, he, ho, h.nil hk, hk, hf⟩)
/-- The law's disk, once written and synced. -/
def dOwn (x : List Int) : Dk := ⟨[[zsec], [x], [zsec]], -1, false⟩
theorem dOwn_write (x : List Int) (hx : x.length = 128) : ((Dk.new 3).write 1 x).2 = none ∧ ((Dk.new 3).write 1 x).1.sync = (dOwn x, none) := by
  have h1 : (Dk.new 3).write 1 x = (⟨[[zsec], [zsec, x], [zsec]], -1, false⟩, none) := by
    unfold Dk.write
    rw [if_neg (by simp [Dk.new]), if_neg (by rw [Dk.new_len]; simp [hx])]
    rfl
  rw [h1]
  exact ⟨rfl, rfl⟩
theorem dOwn_ok {x : List Int} (hx : x.length = 128 ∧ AreB x) : (dOwn x).Ok 2 := by
  have h := (((Dk.new_ok (n := 3) (by omega)).write 1 hx.2).sync (by omega))
  rw [(dOwn_write x hx.1).2] at h
  exact h
theorem dOwn_read {x : List Int} : (dOwn x).readE 1 = none ∧ (dOwn x).readV 1 = x := ⟨rfl, rfl⟩
theorem dOwn_bad {x : List Int} (b : List Int) : (dOwn x).write 3 b = (dOwn x, some 1) := by
  unfold Dk.write
  rw [if_neg (by simp [dOwn]), if_pos (by simp [dOwn])]
theorem dOwn_short {x : List Int} {b : List Int} (hb : b.length ≠ 128) : (dOwn x).write 0 b = (dOwn x, some 1) := by
  unfold Dk.write
  rw [if_neg (by simp [dOwn]), if_pos (.inr (.inr hb))]
theorem sameL_refl (l : List Int) : sameL l l = true := by simp [sameL]
theorem is_one {w : World} {p : Nat → Addr} (hE : Errs w p) : Calls Tryd.prog 21 #[errO p (some 1), .int .i64 102] w fun e w' => e = .returned (.bool true) ∧ Keeps Nil w w' :=
  (is_walk hE (isErr_O (some 1) (fun k hk => by cases hk; omega)) 102).mono (by
    rintro e w' ⟨he, hk⟩
    exact ⟨he.trans (by rw [show (102 : Int) = codeO (some 1) from rfl, isV_O]), hk⟩)
theorem own_read {w0 w : World} {p : Nat} {R : Roles} {X : List Int} {pe : Nat → Addr} (hE : Err2 w0 pe) (h : Mine w0 w p R (dOwn X)) (hx : X.length = 128 ∧ AreB X) :
    Calls Tryd.prog 18 #[.pointer (some ⟨p, 0, none⟩), .int .i64 1] w fun e w' => ∃ g cap, e = .returned (.tuple #[.slice (some ⟨g, 0, none⟩) 128 cap, .nilIface]) ∧ Own w' 5 1 (some ⟨g, 0, none⟩) cap 128 (byteV X) ∧ Mine w0 w' p R (dOwn X) ∧ R g = 0 ∧ w0.heap.size ≤ g :=
  (mine_read hE h (dOwn_ok hx) 1).mono (by
    rintro e w' ⟨a, cap, he, ho, hM, hk, hf⟩
    rw [dOwn_read.1, dOwn_read.2, hx.1] at he
    rw [dOwn_read.2, hx.1] at ho
    obtain ⟨g, ha, _, _⟩ := ho.some (by omega)
    subst ha
    have hg := hf g ((blkOf_some _ _ _ _).2 rfl)
    exact ⟨g, cap, he, ho, hM, h.later hg, Nat.le_trans h.keeps.size hg⟩)
theorem own_image {w0 w : World} {p : Nat} {R : Roles} {X : List Int} (h : Mine w0 w p R (dOwn X)) (hx : X.length = 128 ∧ AreB X) :
    Calls Tryd.prog 20 #[.pointer (some ⟨p, 0, none⟩)] w fun e w' => ∃ g cap v, e = .returned (.slice (some ⟨g, 0, none⟩) 384 cap) ∧ w'.cell? ⟨g, 135, none⟩ = some (.int .u8 v) ∧ w'.frozen? ⟨g, 135, none⟩ = false ∧ Mine w0 w' p R (dOwn X) ∧ R g = 0 ∧ w0.heap.size ≤ g ∧ 384 ≤ cap ∧ cap ≤ 9223372036854775807 :=
  (image_walk h.is (dOwn_ok hx)).mono (by
    rintro e w' ⟨a, cap, he, ho, hk, hf⟩
    have hl : (dOwn X).image.length = 384 := by rw [(dOwn_ok hx).image_len]; rfl
    rw [hl] at he ho
    obtain ⟨g, ha, _, _⟩ := ho.some (by omega)
    subst ha
    have hg := hf g ((blkOf_some _ _ _ _).2 rfl)
    have hm := ho.2.2.1
    unfold maxLen at hm
    exact ⟨g, cap, _, he, ho.cellAt 135 (by unfold byteV; rw [List.getElem?_map]; exact getD_cell hl (by omega)), ho.frozen _, h.nil hk, h.later hg, Nat.le_trans h.keeps.size hg, ho.2.1, hm⟩)
theorem own_bad {w0 w : World} {p : Nat} {R : Roles} {X : List Int} {pe : Nat → Addr} (hE : Err2 w0 pe) (h : Mine w0 w p R (dOwn X)) (hx : X.length = 128 ∧ AreB X) (i : Int) {ab : Option Addr} {n cb : Nat} {b : List Int} (hb : Row .u8 w ab n b) (hi : i = 3 ∨ (i = 0 ∧ n ≠ 128)) :
    Calls Tryd.prog 16 #[.pointer (some ⟨p, 0, none⟩), .int .i64 i, .slice ab n cb] w fun e w' => ∃ R', e = .returned (errO pe (some 1)) ∧ Mine w0 w' p R' (dOwn X) :=
  (mine_write hE h (dOwn_ok hx) (by omega) i hb).mono (by
    rintro e w' ⟨R', he, hM, hG⟩
    have hw : (dOwn X).write i b = (dOwn X, some 1) := by
      rcases hi with rfl | ⟨rfl, hn⟩
      · exact dOwn_bad b
      · exact dOwn_short (by rw [hb.llen]; exact hn)
    rw [hw] at he hM
    exact ⟨R', he, hM⟩)
set_option maxRecDepth 100000 in
set_option maxHeartbeats 1600000 in
theorem diskOwn_walk (a b : Int) (w : World) {p : Nat → Addr} (wf0 : (Lit.int .i64 a).wf = true) (wf1 : (Lit.int .i64 b).wf = true) (hE : Errs w p) :
    Calls Tryd.prog 3 #[.int .i64 a, .int .i64 b] w fun e w' => e = .returned (.bool true) ∧ Keeps Nil w w' := by
  have HES := Lib.hid hE
  have HE := Lib.hid hE.e2
  have HFI := Lib.hid (diskfirst_walk hE.e2)
  clear hE
  go_enter Tryd.func3, Tryd.ntmps3
  go_wp2_with fail
  refine HFI.out.mono ?_
  rintro e w1 ⟨rfl, hk1⟩
  have hn := new_walk w1 3
  rw [show newN 3 = 3 by decide] at hn
  have HNW := Lib.hid hn
  have HK1 := Lib.hid hk1
  clear hn hk1
  go_wp2_with fail
  refine HNW.out.mono ?_
  rintro e w2 hN
  obtain ⟨pd, R, rfl, hM⟩ := hN.mine
  have HM2 := Lib.hid (show Mine w w2 pd R (Dk.new 3) from ⟨hM.is, HK1.out.trans hM.keeps, fun k hk => Nat.le_trans HK1.out.size (hM.far k hk)⟩)
  clear hN hM HNW
  go_wp2_with fail
  refine (filled_walk w2 a).mono ?_
  rintro e w3 ⟨gx, rfl, hgx, hbx, hk3⟩
  have hxl := fillL_len a
  have hxb := fillL_bytes a
  have HFL := Lib.hid (fun w => filled_walk w a)
  generalize fillL a = X at *
  have HRx := Lib.hid (HM2.out.later hgx)
  have HM3 := Lib.hid (HM2.out.nil hk3)
  have HW := Lib.hid (mine_write HE.out HM3.out (Dk.new_ok (by omega)) (by omega) 1 (cb := 128) (hbx.row8 hxb hxl (by omega)))
  have hdw := dOwn_write X hxl
  have hno : errO p none = .nilIface := rfl
  have HDW := Lib.hid hdw
  have HNO := Lib.hid hno
  have HGX := Lib.hid (show w.heap.size ≤ gx from Nat.le_trans HM2.out.keeps.size hgx)
  have HBX := Lib.hid (And.intro hbx (And.intro hxl hxb))
  clear hgx hbx hk3 hdw hxl hxb hno
  go_wp2_with fail
  refine HW.out.mono ?_
  rintro e w4 ⟨R4, rfl, hM4, hG4⟩
  rw [HDW.out.1, HNO.out]
  have hsy := mine_sync HE.out hM4 ((Dk.new_ok (n := 3) (by omega)).write 1 HBX.out.2.2) (by omega)
  rw [HDW.out.2] at hsy
  have HSY := Lib.hid hsy
  have hbx4 := HBX.out.1.keep hG4.keeps (fun h => by unfold Wr at h; rw [HRx.out] at h; omega)
  have HR4 : Hid (R4 gx = 0) := Lib.hid (by rw [hG4.same gx HBX.out.1.lt]; exact HRx.out)
  clear hM4 hG4 hsy HW HDW
  have HB4 := Lib.hid hbx4
  clear hbx4
  go_wp2_with fail
  refine HSY.out.mono ?_
  rintro e w5 ⟨rfl, hM5, hk5⟩
  rw [HNO.out]
  have hbx5 := HB4.out.keep hk5 (fun h => by unfold Wr at h; rw [HR4.out] at h; omega)
  have hc5 := hbx5.cell 5 (v := .int .u8 (X.getD 5 0)) (by unfold byteV; rw [List.getElem?_map]; exact getD_cell HBX.out.2.1 (by omega))
  have hz5 := hbx5.frozen 5
  have HM5 := Lib.hid hM5
  clear hM5 hk5 HSY HB4 hbx5
  generalize X.getD 5 0 = x5 at *
  have HRD := Lib.hid (fun v => own_read HE.out (HM5.out.other ((Keeps.refl (One gx) w5).setOne 5 v) HR4.out HGX.out) HBX.out.2)
  clear HM5
  go_wp2_with fail
  refine (HRD.out _).mono ?_
  rintro e w6 ⟨gy, cy, rfl, hoy, hM6, hRy, hgy⟩
  have HY := Lib.hid (And.intro hoy (And.intro hM6 (And.intro hRy hgy)))
  clear hoy hM6 hRy hgy HRD hc5 hz5
  go_wp2_with fail
  refine (HFL.out _).mono ?_
  rintro e w7 ⟨gf, rfl, _, hbf, hk7⟩
  have HS := Lib.hid (sameBytes_walk (ca := cy) (cb := 128) (((HY.out.1).keep0 hk7).row (areB_wf HBX.out.2.2)) (hbf.row8 HBX.out.2.2 HBX.out.2.1 (by omega)))
  rw [sameL_refl] at HS
  have HK7 := Lib.hid hk7
  clear hbf hk7
  go_wp2_with fail
  refine HS.out.mono ?_
  rintro e w8 ⟨rfl, hd8⟩
  have hk8 := HK7.out.trans (hd8.keeps Nil)
  have hoy := HY.out.1.keep0 hk8
  have hc6 := hoy.cellAt 6 (v := .int .u8 (X.getD 6 0)) (by unfold byteV; rw [List.getElem?_map]; exact getD_cell HBX.out.2.1 (by omega))
  have hz6 := hoy.frozen 6
  have HIM := Lib.hid (fun v => own_image ((HY.out.2.1.nil hk8).other ((Keeps.refl (One gy) w8).setOne 6 v) HY.out.2.2.1 HY.out.2.2.2) HBX.out.2)
  have hcy := hoy.2.1
  have hcy2 : cy ≤ 9223372036854775807 := by have := hoy.2.2.1; unfold maxLen at this; exact this
  clear hd8 hk8 hoy HS HK7
  go_wp2_with fail
  refine (HIM.out _).mono ?_
  rintro e w9 ⟨gz, cz, vz, rfl, hcz, hfz, hM9, hRz, hgz, hz1, hz2⟩
  have HRD := Lib.hid (fun v => own_read HE.out (hM9.other ((Keeps.refl (One gz) w9).setOne 135 v) hRz hgz) HBX.out.2)
  clear hM9 hRz hgz HIM hc6 hz6
  go_wp2_with fail
  refine (HRD.out _).mono ?_
  rintro e w10 ⟨gw, cw, rfl, how, hM10, _, _⟩
  have HO10 := Lib.hid how
  have HM10 := Lib.hid hM10
  clear how hM10 HRD hcz hfz
  go_wp2_with fail
  refine (HFL.out _).mono ?_
  rintro e w11 ⟨gh, rfl, _, hbf, hk11⟩
  have HS := Lib.hid (sameBytes_walk (ca := cw) (cb := 128) ((HO10.out.keep0 hk11).row (areB_wf HBX.out.2.2)) (hbf.row8 HBX.out.2.2 HBX.out.2.1 (by omega)))
  rw [sameL_refl] at HS
  have HK11 := Lib.hid hk11
  clear hbf hk11 HO10
  go_wp2_with fail
  refine HS.out.mono ?_
  rintro e w12 ⟨rfl, hd12⟩
  have HM12 := Lib.hid (HM10.out.nil (HK11.out.trans (hd12.keeps Nil)))
  clear hd12 HM10 HK11 HS
  go_wp2_with fail
  refine (filled_walk _ 1).mono ?_
  rintro e w13 ⟨gi, rfl, _, hbi, hk13⟩
  have HWB := Lib.hid (own_bad HE.out (HM12.out.nil hk13) HBX.out.2 3 (cb := 128) (hbi.row8 (fillL_bytes 1) (fillL_len 1) (by omega)) (.inl rfl))
  clear hbi hk13
  go_wp2_with fail
  refine HWB.out.mono ?_
  rintro e w14 ⟨R14, rfl, hM14⟩
  have HIS := Lib.hid (is_one (HES.out.keep hM14.keeps))
  have HM14 := Lib.hid hM14
  clear hM14
  go_wp2_with fail
  refine HIS.out.mono ?_
  rintro e w15 ⟨rfl, hk15⟩
  have HM15 := Lib.hid (HM14.out.nil hk15)
  clear hk15 HM14
  go_wp2_with fail
  refine (filled_walk _ 1).mono ?_
  rintro e w16 ⟨gj, rfl, _, hbj, hk16⟩
  have HWB2 := Lib.hid (own_bad HE.out (HM15.out.nil hk16) HBX.out.2 0 (cb := 127) ((hbj.row8 (fillL_bytes 1) (fillL_len 1) (by omega)).tail 1 (by omega)) (.inr ⟨rfl, by omega⟩))
  rw [Addr.add_lit] at HWB2
  clear hbj hk16 HM15
  go_wp2_with fail
  refine HWB2.out.mono ?_
  rintro e w17 ⟨R17, rfl, hM17⟩
  have HIS2 := Lib.hid (is_one (HES.out.keep hM17.keeps))
  have HM17 := Lib.hid hM17
  clear hM17
  go_wp2_with fail
  refine HIS2.out.mono ?_
  rintro e w18 ⟨rfl, hk18⟩
  have HF := Lib.hid (HM17.out.keeps.trans hk18)
  clear hk18
  go_wp2_with fail
  go_ret
  exact ⟨rfl, HF.out⟩
end Go.Proofs.YtkefbgkdkmkghaaDoor
