/-
  Chapter 9: DiskFuses.
-/
import Derived.Test.YtkefbgkdkmkghaaDoorDiskOwn
namespace Go.Proofs.YtkefbgkdkmkghaaDoor
set_option linter.unusedSimpArgs false
set_option linter.unusedVariables false
open Go.RowKit

theorem crashL_ones : ∀ (vs : List (List (List Int))) (e : Nat), crashL vs (List.replicate (vs.length + e) 1) = vs.map fun l => if l.length < 2 then l else [l.getD (keepN 1 l.length) []]
  | [], _ => rfl
  | l :: r, e => by
    unfold crashL
    by_cases h : l.length < 2
    · rw [if_pos h, List.map_cons, if_pos h, ← crashL_ones r (e + 1)]
      rw [show (l :: r).length + e = r.length + (e + 1) by rw [List.length_cons]; omega]
    · rw [if_neg h, List.map_cons, if_neg h, ← crashL_ones r e]
      rw [show (l :: r).length + e = r.length + e + 1 by rw [List.length_cons]; omega, List.replicate_succ]
/-- The disk while so many writes go through: i of n are done. -/
structure FuseI (d : Dk) (n i : Nat) : Prop where
  len : d.vs.length = 30
  off : d.off = false
  left : d.left = (n : Int) - i
  at_ : d.at_ n = [zsec]
  ok : d.Ok (i + 1)
theorem fuseI_zero {n : Nat} (hn : n < 20) : FuseI ((Dk.new 30).fuse n) n 0 := by
  refine ⟨Dk.new_len 30, rfl, ?_, ?_, (Dk.new_ok (by omega)).fuse (by omega)⟩
  · show max (n : Int) (-1) = n - (0 : Nat); omega
  · show (List.replicate 30 [zsec]).getD n [] = [zsec]
    rw [List.getD_eq_getElem?_getD, List.getElem?_replicate, if_pos (by omega)]
    rfl
theorem write_on {d : Dk} {i : Nat} {b : List Int} (ho : d.off = false) (hi : i < d.vs.length) (hb : b.length = 128) : d.write i b = ((d.put i b).goes, if (d.put i b).goes.off = true then some 0 else none) := by
  unfold Dk.write
  rw [if_neg (by rw [ho]; simp), if_neg (by omega)]
  rfl
theorem put_at {d : Dk} {i j : Nat} {b : List Int} (hi : i < d.vs.length) : (d.put i b).at_ j = if i = j then d.at_ i ++ [b] else d.at_ j := by
  unfold Dk.put Dk.at_
  dsimp only
  by_cases h : i = j
  · subst h; simp [List.getD, hi]
  · simp [List.getD, List.getElem?_set, h]
theorem goes_at {d : Dk} {j : Nat} : d.goes.at_ j = d.at_ j := rfl
theorem FuseI.next {d : Dk} {n i : Nat} (h : FuseI d n i) (hi : i < n) (hn : n < 20) {b : List Int} (hb : b.length = 128 ∧ AreB b) : (d.write i b).2 = none ∧ FuseI (d.write i b).1 n (i + 1) := by
  have hl := h.len
  have hk := h.ok.write i hb.2
  rw [write_on h.off (by omega) hb.1] at hk ⊢
  have hoff : (d.put i b).goes.off = false := by
    show decide (d.left = 0) = false
    rw [h.left]; simp; omega
  refine ⟨by rw [hoff]; rfl, by show (d.vs.set i _).length = 30; rw [List.length_set]; exact hl, hoff, ?_, ?_, hk⟩
  · show (if 0 < d.left then d.left - 1 else d.left) = _
    rw [h.left, if_pos (by omega)]
    omega
  · show (d.put i b).goes.at_ n = _
    rw [goes_at, put_at (by omega), if_neg (by omega)]
    exact h.at_
/-- The disk when power is off. -/
structure FuseE (d : Dk) (n : Nat) (b : List Int) : Prop where
  len : d.vs.length = 30
  off : d.off = true
  at_ : d.at_ n = [zsec] ∧ b = zsec ∨ d.at_ n = [zsec, b]
  ok : d.Ok 40
theorem FuseI.lastSync {d : Dk} {n : Nat} (h : FuseI d n n) (hn : n < 20) : d.sync.2 = some 0 ∧ FuseE d.sync.1 n zsec := by
  have hoff : d.goes.off = true := by
    show decide (d.left = 0) = true
    rw [h.left]; simp
  have hs : d.sync = (d.goes, some 0) := by
    unfold Dk.sync
    rw [if_neg (by rw [h.off]; simp), if_pos hoff]
  have hk := (h.ok.sync (by omega)).mono (k := 40) (by omega)
  rw [hs] at hk ⊢
  exact ⟨rfl, h.len, hoff, .inl ⟨h.at_, rfl⟩, hk⟩
theorem FuseI.lastWrite {d : Dk} {n : Nat} (h : FuseI d n n) (hn : n < 20) {b : List Int} (hb : b.length = 128 ∧ AreB b) : (d.write n b).2 = some 0 ∧ FuseE (d.write n b).1 n b := by
  have hl := h.len
  have hk := (h.ok.write n hb.2).mono (k := 40) (by omega)
  rw [write_on h.off (by omega) hb.1] at hk ⊢
  have hoff : (d.put n b).goes.off = true := by
    show decide (d.left = 0) = true
    rw [h.left]; simp
  refine ⟨by rw [hoff]; rfl, by show (d.vs.set n _).length = 30; rw [List.length_set]; exact hl, hoff, .inr ?_, hk⟩
  show (d.put n b).goes.at_ n = _
  rw [goes_at, put_at (by omega), if_pos rfl, h.at_]
  rfl
theorem FuseE.same {d : Dk} {n : Nat} {b : List Int} (h : FuseE d n b) : (∀ i c, d.write i c = (d, some 0)) ∧ d.sync = (d, some 0) ∧ ∀ i, d.readE i = some 0 :=
  ⟨fun i c => by unfold Dk.write; rw [if_pos h.off], by unfold Dk.sync; rw [if_pos h.off], fun i => by unfold Dk.readE; rw [if_pos h.off]⟩
def ones30 : List Int := List.replicate 30 1
theorem FuseE.back {d : Dk} {n : Nat} {b : List Int} (h : FuseE d n b) (hn : n < 20) : (d.crash ones30).readE n = none ∧ (d.crash ones30).readV n = b ∧ (d.crash ones30).sync.2 = none ∧ (d.crash ones30).Ok 40 := by
  have hl := h.len
  have hc : (d.crash ones30).vs = d.vs.map fun l => if l.length < 2 then l else [l.getD (keepN 1 l.length) []] := by
    show crashL d.vs ones30 = _
    rw [← crashL_ones d.vs 0, hl]
    rfl
  have he : (d.crash ones30).readE n = none := by
    unfold Dk.readE
    rw [if_neg (by simp [Dk.crash]), hc, List.length_map, hl, if_neg (by omega)]
  have ha : (d.crash ones30).at_ n = if (d.at_ n).length < 2 then d.at_ n else [(d.at_ n).getD (keepN 1 (d.at_ n).length) []] := by
    unfold Dk.at_
    rw [hc, List.getD_eq_getElem?_getD, List.getD_eq_getElem?_getD, List.getElem?_map, List.getElem?_eq_getElem (by omega)]
    rfl
  refine ⟨he, ?_, ?_, h.ok.crash ones30 (by omega)⟩
  · unfold Dk.readV
    rw [he, if_pos rfl, show (n : Int).toNat = n by omega, ha]
    rcases h.at_ with ⟨h1, h2⟩ | h1
    · rw [h1, h2]; rfl
    · rw [h1]; rfl
  · unfold Dk.sync
    rw [if_neg (by simp [Dk.crash]), if_neg (by simp [Dk.crash, Dk.goes])]
theorem fillL_zero : fillL 0 = zsec := rfl
theorem is_zero {w : World} {p : Nat → Addr} (hE : Errs w p) : Calls Tryd.prog 21 #[errO p (some 0), .int .i64 101] w fun e w' => e = .returned (.bool true) ∧ Keeps Nil w w' :=
  (is_walk hE (isErr_O (some 0) (fun k hk => by cases hk; omega)) 101).mono (by
    rintro e w' ⟨he, hk⟩
    exact ⟨he.trans (by rw [show (101 : Int) = codeO (some 0) from rfl, isV_O]), hk⟩)
theorem Tryd.infoInt : (Tryd.prog.info? 3).map (fun i => (i.zero.map (·.cells.size), i.size, i.bytes)) = some (some 1, 1, 8) := by kernel_rfl
theorem Tryd.bsInt : (Tryd.prog.info? 3).map (fun i => (i.size, i.zero.isSome)) = some (1, true) := by kernel_rfl
def onesV (k : Nat) : List Value := (List.replicate k (1 : Int)).map (Value.int .i64)
theorem onesV_succ (k : Nat) : onesV (k + 1) = onesV k ++ [.int .i64 1] := by unfold onesV; rw [List.replicate_succ', List.map_append]; rfl
theorem onesV_one (k : Nat) : ∀ u ∈ onesV k, u.oneCell' = true := fun u hu => by obtain ⟨x, _, rfl⟩ := List.mem_map.1 hu; rfl
theorem errV_ne (p : Nat → Addr) (k : Nat) : ∃ t x, errO p (some k) = .iface t (.pointer (some x)) := ⟨_, _, rfl⟩
set_option maxRecDepth 100000 in
set_option maxHeartbeats 1600000 in
theorem diskFuses_walk (a b : Int) (last : Bool) (w : World) {p : Nat → Addr} (wf0 : (Lit.int .i64 a).wf = true) (wf1 : (Lit.int .i64 b).wf = true) (hE : Errs w p) :
    Calls Tryd.prog 6 #[.int .i64 a, .int .i64 b, .bool last] w fun e w' => e = .returned (.bool true) ∧ Keeps Nil w w' := by
  have HES := Lib.hid hE
  have HE := Lib.hid hE.e2
  have HFI := Lib.hid (diskfirst_walk hE.e2)
  have ha := i64_wf wf0
  have hb := i64_wf wf1
  obtain ⟨n, hn⟩ := Int.eq_ofNat_of_zero_le (Int.emod_nonneg a (b := 20) (by omega))
  obtain ⟨q, hq⟩ := Int.eq_ofNat_of_zero_le (Int.emod_nonneg b (b := 5) (by omega))
  have hn20 : n < 20 := by omega
  have hq5 : q < 5 := by omega
  have HNA := Lib.hid (fun w => number_walk a 20 w ha.1 ha.2 (by omega) (by omega))
  have HNB := Lib.hid (fun w => number_walk b 5 w hb.1 hb.2 (by omega) (by omega))
  rw [hn] at HNA
  rw [hq] at HNB
  have H0 := Lib.hid (fuseI_zero hn20)
  have HF7 := Lib.hid (And.intro (fun w => filled_walk w 7) (And.intro (fillL_len 7) (fillL_bytes 7)))
  have HF9 := Lib.hid (And.intro (fun w => filled_walk w 9) (And.intro (fillL_len 9) (fillL_bytes 9)))
  have HNO : Hid (errO p none = .nilIface) := Lib.hid rfl
  clear hE wf0 wf1 ha hb hn hq
  generalize fillL 7 = F7 at *
  generalize fillL 9 = F9 at *
  go_enter Tryd.func6, Tryd.ntmps6
  go_wp2_with fail
  refine HFI.out.mono ?_
  rintro e w1 ⟨rfl, hk1⟩
  have HK1 := Lib.hid hk1
  clear hk1
  go_wp2_with fail
  refine (HNA.out _).mono ?_
  rintro e w2 ⟨rfl, rfl⟩
  go_wp2_with fail
  refine (HNB.out _).mono ?_
  rintro e w3 ⟨rfl, rfl⟩
  have hnw := new_walk w1 30
  rw [show newN 30 = 30 by decide] at hnw
  have HNW := Lib.hid hnw
  clear hnw
  go_wp2_with fail
  refine HNW.out.mono ?_
  rintro e w2 hN
  obtain ⟨pd, R, rfl, hM⟩ := hN.mine
  have HM2 := Lib.hid (show Mine w w2 pd R (Dk.new 30) from ⟨hM.is, HK1.out.trans hM.keeps, fun k hk => Nat.le_trans HK1.out.size (hM.far k hk)⟩)
  clear hN hM HNW
  go_wp2_with fail
  refine (fuse_walk HM2.out.is n).mono ?_
  rintro e w3 ⟨rfl, hD, hk⟩
  have HM3 := Lib.hid (HM2.out.wrote hD hk)
  clear hD hk HM2
  go_wp2_with fail
  go_loopw [9] (fun x wr => ∃ (i : Nat) (R : Roles) (d : Dk), x = .int .i64 i ∧ i ≤ n ∧ Hid (Mine w wr pd R d) ∧ Hid (FuseI d n i)) (fun x _ => n - (intOf x).toNat)
  case atStart => exact ⟨0, R, _, rfl, Nat.zero_le _, HM3, H0⟩
  case round =>
    obtain ⟨i, R', d, rfl, hin, hM, hI⟩ := hrel
    by_cases hi : i < n
    · have hi1 : (i : Int) < n := by omega
      go_wp2_with fail
      refine (HF7.out.1 _).mono ?_
      rintro e w4 ⟨g7, rfl, _, hb7, hk4⟩
      have HW := Lib.hid (mine_write HE.out (hM.out.nil hk4) hI.out.ok (by omega) i (cb := 128) (hb7.row8 HF7.out.2.2 HF7.out.2.1 (by omega)))
      have HNX := Lib.hid (hI.out.next hi hn20 HF7.out.2)
      clear hb7 hk4
      go_wp2_with fail
      refine HW.out.mono ?_
      rintro e w5 ⟨R5, rfl, hM5, _⟩
      rw [HNX.out.1, HNO.out]
      have HM5 := Lib.hid hM5
      clear hM5 HW
      go_wp2_with fail
      exact ⟨⟨i + 1, R5, _, by go_num, by omega, HM5, Lib.hid HNX.out.2⟩, by first | (simp [intOf]; done) | (simp [intOf]; omega)⟩
    · obtain rfl : i = n := by omega
      have hin1 : ¬ ((i : Int) < i) := by omega
      obtain ⟨te, xe, hev⟩ := errV_ne p 0
      have HEV := Lib.hid hev
      have HIS := Lib.hid (fun (w' : World) (h : Errs w' p) => is_zero h)
      rw [hev] at HIS
      clear hev
      cases last with
      | true =>
        go_wp2_with fail
        refine (mine_sync HE.out hM.out hI.out.ok (by omega)).mono ?_
        rintro e w4 ⟨rfl, hM4, _⟩
        rw [(hI.out.lastSync hn20).1, HEV.out]
        have HX := Lib.hid (hI.out.lastSync hn20).2
        have HM4 := Lib.hid hM4
        generalize R' = R4 at *
        clear hM4 hM hI H0 HM3
        generalize d.sync.1 = dE at *
        have HB : Hid (zsec.length = 128 ∧ AreB zsec ∧ zsec.getD 0 0 = 0) := Lib.hid ⟨zsec_len, zsec_bytes, rfl⟩
        generalize zsec = B at *
        go_wp2_with fail
        go_loopw [11, 12, 13] (fun x y z wr => ∃ (j : Nat) (R : Roles), x = .int .i64 j ∧ j ≤ q ∧ Hid (Mine w wr pd R dE)) (fun x _ _ _ => q - (intOf x).toNat)
        case atStart => exact ⟨0, R4, rfl, Nat.zero_le _, HM4⟩
        case round =>
          obtain ⟨j, R6, rfl, hjq, hM6⟩ := hrel
          by_cases hj : j < q
          · have hj1 : (j : Int) < q := by omega
            have hr := mine_read HE.out hM6.out HX.out.ok 0
            rw [HX.out.same.2.2, HEV.out] at hr
            have HR := Lib.hid hr
            clear hr
            go_wp2_with fail
            refine HR.out.mono ?_
            rintro e w7 ⟨ar, cr, rfl, _, hM7, _, _⟩
            have HM7 := Lib.hid hM7
            clear hM7 HR
            go_wp2_with fail
            refine (HF9.out.1 _).mono ?_
            rintro e w8 ⟨g9, rfl, _, hb9, hk8⟩
            have hw := mine_write HE.out (HM7.out.nil hk8) HX.out.ok (by omega) 0 (cb := 128) (hb9.row8 HF9.out.2.2 HF9.out.2.1 (by omega))
            rw [HX.out.same.1, HEV.out] at hw
            have HW := Lib.hid hw
            clear hb9 hk8 hw HM7
            go_wp2_with fail
            refine HW.out.mono ?_
            rintro e w9 ⟨R9, rfl, hM9, _⟩
            have hs := mine_sync HE.out hM9 HX.out.ok (by omega)
            rw [HX.out.same.2.1, HEV.out] at hs
            have HS := Lib.hid hs
            clear hM9 hs HW
            go_wp2_with fail
            refine HS.out.mono ?_
            rintro e w10 ⟨rfl, hM10, _⟩
            have ho := off_walk hM10.is
            rw [HX.out.off] at ho
            have HO := Lib.hid (And.intro ho hM10)
            clear ho hM10 HS
            go_wp2_with fail
            refine HO.out.1.mono ?_
            rintro e w11 ⟨rfl, rfl⟩
            have HM11 := Lib.hid HO.out.2
            clear HO
            go_wp2_with fail
            exact ⟨⟨j + 1, _, by go_num, by omega, HM11⟩, by first | (simp [intOf]; done) | (simp [intOf]; omega)⟩
          · obtain rfl : j = q := by omega
            have hjj : ¬ ((j : Int) < j) := by omega
            obtain ⟨wo, hwo⟩ : ∃ x, x = wr := ⟨_, rfl⟩
            subst hwo
            go_wp2_with fail
            go_loopw [14, 15] (fun al x wr => ∃ (k : Nat) (ao : Option Addr) (co no : Nat), al = .slice ao no co ∧ x = .int .i64 k ∧ k ≤ 30 ∧ Hid (no = k) ∧ Hid (Own wr 3 1 ao co no (onesV k)) ∧ Hid (Keeps Nil wo wr) ∧ Hid (∀ m, blkOf ao m → wo.heap.size ≤ m)) (fun _ x _ => 30 - (intOf x).toNat)
            case atStart => exact ⟨0, none, 0, 0, rfl, rfl, by omega, Lib.hid rfl, Lib.hid (Own.nil _ _ _), Lib.hid (Keeps.refl _ _), Lib.hid (fun m hm => (blkOf_none m hm).elim)⟩
            case round =>
              obtain ⟨k, ao, co, no, rfl, rfl, hk30, hno, hO, hkr, hfr⟩ := hrel
              by_cases hk : k < 30
              · have hk1 : (k : Int) < 30 := by omega
                have hno3 : no ≤ 30 := by have := hno.out; omega
                go_wp2_with (first | (refine wpList_bs rfl 37 3 1 _ rfl [.int .i64 1] Tryd.underlying37 Tryd.bsInt rfl (by decide) (by decide) rfl (by simp [Value.cells]) ?_) | (at_builtin; go_must (refine wpl_append rfl _ _ 37 rfl 3 1 8 Tryd.underlying37 Tryd.infoInt (by omega) ao co no _ rfl (hO.out.keep0 ((Keeps.refl _ _).alloc _)) _ 1 1 [.int .i64 1] rfl (Src.one (Blk.new _ _ _) rfl) (by unfold maxLen; omega) (by omega) ?_)))
                intro a2 cap2 w2 hown2 hk2 hf2 _
                have HX2 : Hid (Own w2 3 1 a2 cap2 (no + 1) (onesV (k + 1)) ∧ Keeps Nil wo w2 ∧ ∀ m, blkOf a2 m → wo.heap.size ≤ m) := Lib.hid ⟨by rw [onesV_succ]; exact hown2, (hkr.out.alloc _).step hk2 (fun i hi => .inr (hfr.out i hi)), fun m hm => by
                  rcases hf2 m hm with h' | h'
                  · exact hfr.out m h'
                  · have := hkr.out.size; rw [h']; simp; omega⟩
                clear hown2 hk2 hf2
                go_wp2_with fail
                exact ⟨⟨k + 1, a2, cap2, no + 1, rfl, by go_num, by omega, Lib.hid (by have := hno.out; omega), Lib.hid HX2.out.1, Lib.hid HX2.out.2.1, Lib.hid HX2.out.2.2⟩, by first | (simp [intOf]; done) | (simp [intOf]; omega)⟩
              · obtain rfl : k = 30 := by omega
                have hn3 := hno.out
                subst hn3
                have hrow : Row .i64 wr ao 30 ones30 := hO.out.row (fun x hx => by rw [(List.mem_replicate.1 hx).2]; rfl)
                have hmx : co ≤ 9223372036854775807 := by have := hO.out.2.2.1; unfold maxLen at this; exact this
                have hM7 := hM6.out.nil hkr.out
                have HC := Lib.hid (crash_walk hM7.is HX.out.ok (by omega) hrow hO.out.2.1 hmx (fun _ m hm => hM6.out.later (hfr.out m hm)))
                have HM7 := Lib.hid hM7
                clear hM7 hrow
                go_wp2_with fail
                refine HC.out.mono ?_
                rintro e w8 ⟨rfl, hD8, hk8⟩
                have hM8 := HM7.out.wrote hD8 hk8
                have HBK := Lib.hid (HX.out.back hn20)
                have hr := mine_read HE.out hM8 HBK.out.2.2.2 i
                rw [HBK.out.1, HBK.out.2.1, HB.out.1, HNO.out] at hr
                have HR := Lib.hid hr
                clear hD8 hk8 hM8 hr HC HM7
                go_wp2_with fail
                refine HR.out.mono ?_
                rintro e w9 ⟨ar, cr, rfl, hor, hM9, _, _⟩
                obtain ⟨gr, hgr, _, _⟩ := hor.some (by omega)
                subst hgr
                have hcr := hor.cellAt 0 (v := .int .u8 (B.getD 0 0)) (by unfold byteV; rw [List.getElem?_map]; exact getD_cell HB.out.1 (by omega))
                rw [HB.out.2.2] at hcr
                have HM9 := Lib.hid hM9
                clear hM9 hor HR
                go_wp2_with fail
                refine (HIS.out _ (HES.out.keep HM9.out.keeps)).mono ?_
                rintro e w10 ⟨rfl, hk10⟩
                replace hcr := hk10.cell hcr (fun h => h)
                have hs := mine_sync HE.out (HM9.out.nil hk10) HBK.out.2.2.2 (by omega)
                rw [HBK.out.2.2.1, HNO.out] at hs
                have HS := Lib.hid hs
                clear hs hk10
                go_wp2_with fail
                refine HS.out.mono ?_
                rintro e w11 ⟨rfl, hM11, _⟩
                have HF := Lib.hid hM11.keeps
                clear hM11
                go_wp2_with fail
                go_ret
                exact ⟨rfl, HF.out⟩
      | false =>
        go_wp2_with fail
        have hl8 := fillL_len 8
        have hb8 := fillL_bytes 8
        have HB : Hid ((fillL 8).length = 128 ∧ AreB (fillL 8) ∧ (fillL 8).getD 0 0 = 8) := Lib.hid ⟨hl8, hb8, rfl⟩
        refine (filled_walk _ 8).mono ?_
        generalize fillL 8 = B at *
        rintro e w3 ⟨g8, rfl, _, hbx, hk3⟩
        have HW := Lib.hid (mine_write HE.out (hM.out.nil hk3) hI.out.ok (by omega) i (cb := 128) (hbx.row8 hb8 hl8 (by omega)))
        have HLW := Lib.hid (hI.out.lastWrite hn20 ⟨hl8, hb8⟩)
        clear hbx hk3 hl8 hb8
        go_wp2_with fail
        refine HW.out.mono ?_
        rintro e w4 ⟨R4, rfl, hM4, _⟩
        rw [HLW.out.1, HEV.out]
        have HX := Lib.hid HLW.out.2
        have HM4 := Lib.hid hM4
        clear hM4 hM hI H0 HM3 HW HLW
        generalize (d.write i B).1 = dE at *
        go_wp2_with fail
        go_loopw [11, 12, 13] (fun x y z wr => ∃ (j : Nat) (R : Roles), x = .int .i64 j ∧ j ≤ q ∧ Hid (Mine w wr pd R dE)) (fun x _ _ _ => q - (intOf x).toNat)
        case atStart => exact ⟨0, R4, rfl, Nat.zero_le _, HM4⟩
        case round =>
          obtain ⟨j, R6, rfl, hjq, hM6⟩ := hrel
          by_cases hj : j < q
          · have hj1 : (j : Int) < q := by omega
            have hr := mine_read HE.out hM6.out HX.out.ok 0
            rw [HX.out.same.2.2, HEV.out] at hr
            have HR := Lib.hid hr
            clear hr
            go_wp2_with fail
            refine HR.out.mono ?_
            rintro e w7 ⟨ar, cr, rfl, _, hM7, _, _⟩
            have HM7 := Lib.hid hM7
            clear hM7 HR
            go_wp2_with fail
            refine (HF9.out.1 _).mono ?_
            rintro e w8 ⟨g9, rfl, _, hb9, hk8⟩
            have hw := mine_write HE.out (HM7.out.nil hk8) HX.out.ok (by omega) 0 (cb := 128) (hb9.row8 HF9.out.2.2 HF9.out.2.1 (by omega))
            rw [HX.out.same.1, HEV.out] at hw
            have HW := Lib.hid hw
            clear hb9 hk8 hw HM7
            go_wp2_with fail
            refine HW.out.mono ?_
            rintro e w9 ⟨R9, rfl, hM9, _⟩
            have hs := mine_sync HE.out hM9 HX.out.ok (by omega)
            rw [HX.out.same.2.1, HEV.out] at hs
            have HS := Lib.hid hs
            clear hM9 hs HW
            go_wp2_with fail
            refine HS.out.mono ?_
            rintro e w10 ⟨rfl, hM10, _⟩
            have ho := off_walk hM10.is
            rw [HX.out.off] at ho
            have HO := Lib.hid (And.intro ho hM10)
            clear ho hM10 HS
            go_wp2_with fail
            refine HO.out.1.mono ?_
            rintro e w11 ⟨rfl, rfl⟩
            have HM11 := Lib.hid HO.out.2
            clear HO
            go_wp2_with fail
            exact ⟨⟨j + 1, _, by go_num, by omega, HM11⟩, by first | (simp [intOf]; done) | (simp [intOf]; omega)⟩
          · obtain rfl : j = q := by omega
            have hjj : ¬ ((j : Int) < j) := by omega
            obtain ⟨wo, hwo⟩ : ∃ x, x = wr := ⟨_, rfl⟩
            subst hwo
            go_wp2_with fail
            go_loopw [14, 15] (fun al x wr => ∃ (k : Nat) (ao : Option Addr) (co no : Nat), al = .slice ao no co ∧ x = .int .i64 k ∧ k ≤ 30 ∧ Hid (no = k) ∧ Hid (Own wr 3 1 ao co no (onesV k)) ∧ Hid (Keeps Nil wo wr) ∧ Hid (∀ m, blkOf ao m → wo.heap.size ≤ m)) (fun _ x _ => 30 - (intOf x).toNat)
            case atStart => exact ⟨0, none, 0, 0, rfl, rfl, by omega, Lib.hid rfl, Lib.hid (Own.nil _ _ _), Lib.hid (Keeps.refl _ _), Lib.hid (fun m hm => (blkOf_none m hm).elim)⟩
            case round =>
              obtain ⟨k, ao, co, no, rfl, rfl, hk30, hno, hO, hkr, hfr⟩ := hrel
              by_cases hk : k < 30
              · have hk1 : (k : Int) < 30 := by omega
                have hno3 : no ≤ 30 := by have := hno.out; omega
                go_wp2_with (first | (refine wpList_bs rfl 37 3 1 _ rfl [.int .i64 1] Tryd.underlying37 Tryd.bsInt rfl (by decide) (by decide) rfl (by simp [Value.cells]) ?_) | (at_builtin; go_must (refine wpl_append rfl _ _ 37 rfl 3 1 8 Tryd.underlying37 Tryd.infoInt (by omega) ao co no _ rfl (hO.out.keep0 ((Keeps.refl _ _).alloc _)) _ 1 1 [.int .i64 1] rfl (Src.one (Blk.new _ _ _) rfl) (by unfold maxLen; omega) (by omega) ?_)))
                intro a2 cap2 w2 hown2 hk2 hf2 _
                have HX2 : Hid (Own w2 3 1 a2 cap2 (no + 1) (onesV (k + 1)) ∧ Keeps Nil wo w2 ∧ ∀ m, blkOf a2 m → wo.heap.size ≤ m) := Lib.hid ⟨by rw [onesV_succ]; exact hown2, (hkr.out.alloc _).step hk2 (fun i hi => .inr (hfr.out i hi)), fun m hm => by
                  rcases hf2 m hm with h' | h'
                  · exact hfr.out m h'
                  · have := hkr.out.size; rw [h']; simp; omega⟩
                clear hown2 hk2 hf2
                go_wp2_with fail
                exact ⟨⟨k + 1, a2, cap2, no + 1, rfl, by go_num, by omega, Lib.hid (by have := hno.out; omega), Lib.hid HX2.out.1, Lib.hid HX2.out.2.1, Lib.hid HX2.out.2.2⟩, by first | (simp [intOf]; done) | (simp [intOf]; omega)⟩
              · obtain rfl : k = 30 := by omega
                have hn3 := hno.out
                subst hn3
                have hrow : Row .i64 wr ao 30 ones30 := hO.out.row (fun x hx => by rw [(List.mem_replicate.1 hx).2]; rfl)
                have hmx : co ≤ 9223372036854775807 := by have := hO.out.2.2.1; unfold maxLen at this; exact this
                have hM7 := hM6.out.nil hkr.out
                have HC := Lib.hid (crash_walk hM7.is HX.out.ok (by omega) hrow hO.out.2.1 hmx (fun _ m hm => hM6.out.later (hfr.out m hm)))
                have HM7 := Lib.hid hM7
                clear hM7 hrow
                go_wp2_with fail
                refine HC.out.mono ?_
                rintro e w8 ⟨rfl, hD8, hk8⟩
                have hM8 := HM7.out.wrote hD8 hk8
                have HBK := Lib.hid (HX.out.back hn20)
                have hr := mine_read HE.out hM8 HBK.out.2.2.2 i
                rw [HBK.out.1, HBK.out.2.1, HB.out.1, HNO.out] at hr
                have HR := Lib.hid hr
                clear hD8 hk8 hM8 hr HC HM7
                go_wp2_with fail
                refine HR.out.mono ?_
                rintro e w9 ⟨ar, cr, rfl, hor, hM9, _, _⟩
                obtain ⟨gr, hgr, _, _⟩ := hor.some (by omega)
                subst hgr
                have hcr := hor.cellAt 0 (v := .int .u8 (B.getD 0 0)) (by unfold byteV; rw [List.getElem?_map]; exact getD_cell HB.out.1 (by omega))
                rw [HB.out.2.2] at hcr
                have HM9 := Lib.hid hM9
                clear hM9 hor HR
                go_wp2_with fail
                refine (HIS.out _ (HES.out.keep HM9.out.keeps)).mono ?_
                rintro e w10 ⟨rfl, hk10⟩
                replace hcr := hk10.cell hcr (fun h => h)
                have hs := mine_sync HE.out (HM9.out.nil hk10) HBK.out.2.2.2 (by omega)
                rw [HBK.out.2.2.1, HNO.out] at hs
                have HS := Lib.hid hs
                clear hs hk10
                go_wp2_with fail
                refine HS.out.mono ?_
                rintro e w11 ⟨rfl, hM11, _⟩
                have HF := Lib.hid hM11.keeps
                clear hM11
                go_wp2_with fail
                go_ret
                exact ⟨rfl, HF.out⟩
end Go.Proofs.YtkefbgkdkmkghaaDoor
