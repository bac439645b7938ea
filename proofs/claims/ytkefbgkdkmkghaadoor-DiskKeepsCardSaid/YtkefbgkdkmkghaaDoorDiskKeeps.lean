/-
  Chapter 9: DiskKeeps.
-/
import Derived.Test.YtkefbgkdkmkghaaDoorDiskKeepsPlain
namespace Go.Proofs.YtkefbgkdkmkghaaDoor
set_option linter.unusedSimpArgs false
set_option linter.unusedVariables false
open Go.RowKit

/-- A slice of bytes that nothing writes. -/
def VB (w : World) (R : Roles) (gm : Nat) (v : Value) (bs : List Int) : Prop :=
  ∃ g o c, v = .slice (some ⟨g, o, none⟩) bs.length c ∧ bs.length ≤ c ∧ c ≤ 9223372036854775807 ∧ Row .u8 w (some ⟨g, o, none⟩) bs.length bs ∧ g ≠ gm ∧ R g = 0 ∧ g < w.heap.size
theorem Row.keepS {k : IntKind} {w w' : World} {g o n : Nat} {l : List Int} {S : Nat → Prop} (h : Row k w (some ⟨g, o, none⟩) n l) (hk : Keeps S w w') (hn : ¬ S g) : Row k w' (some ⟨g, o, none⟩) n l :=
  ⟨h.llen, h.most, fun h0 => by
    obtain ⟨b, off, ha, hb, hc⟩ := h.cell h0
    cases ha
    exact ⟨g, o, rfl, Nat.lt_of_lt_of_le hb hk.size, fun i hi => hk.cell (hc i hi) hn⟩, h.wf⟩
theorem VB.keep {w w' : World} {R R' : Roles} {gm : Nat} {v : Value} {bs : List Int} {S : Nat → Prop} (h : VB w R gm v bs) (hk : Keeps S w w') (hS : ∀ k, k ≠ gm → R k = 0 → ¬ S k) (hR : ∀ k, k < w.heap.size → R' k = R k) : VB w' R' gm v bs := by
  obtain ⟨g, o, c, he, h1, h2, hr, h3, h4, h5⟩ := h
  exact ⟨g, o, c, he, h1, h2, hr.keepS hk (hS g h3 h4), h3, by rw [hR g h5]; exact h4, Nat.lt_of_lt_of_le h5 hk.size⟩
/-- The law's list in memory. -/
structure MayIs (w : World) (R : Roles) (gm : Nat) (cs : List Value) (f : Nat → List Int) : Prop where
  blk : Blk w gm cs 39
  clen : cs.length = 5
  each : ∀ k, k < 5 → VB w R gm (cs.getD k undef) (f k)
  role : R gm = 0
section
variable {w w' : World} {R R' : Roles} {gm : Nat} {cs : List Value} {f f' : Nat → List Int}
theorem MayIs.nil (h : MayIs w R gm cs f) (hk : Keeps Nil w w') : MayIs w' R gm cs f :=
  ⟨h.blk.keep0 hk, h.clen, fun k hk' => (h.each k hk').keep hk (fun _ _ _ h => h) (fun _ _ => rfl), h.role⟩
theorem MayIs.wr (h : MayIs w R gm cs f) (hk : Keeps (Wr R) w w') : MayIs w' R gm cs f :=
  ⟨h.blk.keep hk (fun e => by unfold Wr at e; rw [h.role] at e; omega), h.clen, fun k hk' => (h.each k hk').keep hk (fun j _ h1 h2 => by unfold Wr at h2; omega) (fun _ _ => rfl), h.role⟩
theorem MayIs.grew (h : MayIs w R gm cs f) (hG : Grew w w' R R') : MayIs w' R' gm cs f :=
  ⟨h.blk.keep hG.keeps (fun e => by unfold Wr at e; rw [h.role] at e; omega), h.clen, fun k hk' => (h.each k hk').keep hG.keeps (fun j _ h1 h2 => by unfold Wr at h2; omega) hG.same, by rw [hG.same gm h.blk.lt]; exact h.role⟩
theorem MayIs.same (h : MayIs w R gm cs f) (hf : ∀ k, k < 5 → f' k = f k) : MayIs w R gm cs f' := ⟨h.blk, h.clen, fun k hk => by rw [hf k hk]; exact h.each k hk, h.role⟩
theorem MayIs.cell (h : MayIs w R gm cs f) {k : Nat} (hk : k < 5) : w.cell? ⟨gm, k, none⟩ = some (cs.getD k undef) :=
  h.blk.cell k (by rw [List.getD_eq_getElem?_getD, List.getElem?_eq_getElem (by rw [h.clen]; exact hk)]; rfl)
theorem MayIs.set (h : MayIs w R gm cs f) {k : Nat} (hk : k < 5) {v : Value} {bs : List Int} (hv : VB w R gm v bs) : MayIs (w.setCell ⟨gm, k, none⟩ v) R gm (cs.set k v) (fun j => if k = j then bs else f j) := by
  have hko : Keeps (One gm) w (w.setCell ⟨gm, k, none⟩ v) := (Keeps.refl _ _).setOne _ _
  have hm : ∀ {v : Value} {bs : List Int}, VB w R gm v bs → VB (w.setCell ⟨gm, k, none⟩ v) R gm v bs := fun hv => hv.keep ((Keeps.refl (One gm) w).setOne _ _) (fun j h1 _ h2 => h1 h2) (fun _ _ => rfl)
  refine ⟨h.blk.set k v, by rw [List.length_set]; exact h.clen, fun j hj => ?_, h.role⟩
  rw [getD_set (by rw [h.clen]; exact hk)]
  by_cases hkj : k = j
  · rw [if_pos hkj, if_pos hkj]
    exact hv.keep hko (fun j h1 _ h2 => h1 h2) (fun _ _ => rfl)
  · rw [if_neg hkj, if_neg hkj]
    exact (h.each j hj).keep hko (fun j h1 _ h2 => h1 h2) (fun _ _ => rfl)
end
theorem VB.last {w : World} {R : Roles} {gm : Nat} {g o c : Nat} {bs : List Int} (hne : bs ≠ []) (h1 : bs.length ≤ c) (h2 : c ≤ 9223372036854775807) (hr : Row .u8 w (some ⟨g, o, none⟩) bs.length bs) (h3 : g ≠ gm) (h4 : R g = 0) (h5 : g < w.heap.size) :
    VB w R gm (.slice (some ⟨g, o + (bs.length - 1), none⟩) 1 (c - (bs.length - 1))) (lastOf bs) := by
  have hp := List.length_pos_iff.2 hne
  have hl : (lastOf bs).length = 1 := by unfold lastOf; rw [List.length_drop]; omega
  have ht := hr.tail (bs.length - 1) (by omega)
  rw [Addr.add_lit, show bs.length - (bs.length - 1) = 1 by omega] at ht
  exact ⟨g, _, _, by rw [hl], by rw [hl]; omega, by omega, by rw [hl]; exact ht, h3, h4, h5⟩
theorem Mine.may {w0 w w' : World} {p : Nat} {R : Roles} {d : Dk} {gm : Nat} (h : Mine w0 w p R d) (hk : Keeps (One gm) w w') (hR : R gm = 0) (hg : w0.heap.size ≤ gm) : Mine w0 w' p R d := h.other hk hR hg
theorem may_first {w wr : World} {R : Roles} {gm pd j : Nat} {d : Dk} {cs : List Value} (hB : Blk wr gm cs 39) (hcl : cs.length = 5) (hV : ∀ k, k < j → VB wr R gm (cs.getD k undef) [0]) (hM : Mine w wr pd R d) (hR : R gm = 0) (hg : w.heap.size ≤ gm) (hj : j < 5)
    (W : World) (hW : W = (wr.alloc (.cells #[.int .u8 0] 5)).setCell ⟨gm, j, none⟩ (.slice (some ⟨wr.heap.size, 0, none⟩) 1 1)) :
    ∃ cs', Blk W gm cs' 39 ∧ cs'.length = 5 ∧ (∀ k, k < j + 1 → VB W R gm (cs'.getD k undef) [0]) ∧ Mine w W pd R d := by
  have hkN : Keeps Nil wr (wr.alloc (.cells #[.int .u8 0] 5)) := (Keeps.refl Nil wr).alloc _
  have hbN : Blk (wr.alloc (.cells #[.int .u8 0] 5)) wr.heap.size (byteV [0]) 5 := Blk.new wr [.int .u8 0] 5
  have hR0 := hM.later (Nat.le_refl _)
  have hglt := hB.lt
  have hrow := hbN.row8 (n := 1) (fun x hx => by rw [List.mem_singleton.1 hx]; omega) rfl (by omega)
  have hnlt := hbN.lt
  have hko : Keeps (One gm) (wr.alloc (.cells #[.int .u8 0] 5)) W := by rw [hW]; exact (Keeps.refl _ _).setOne _ _
  have hset := (hB.keep0 hkN).set j (.slice (some ⟨wr.heap.size, 0, none⟩) 1 1)
  rw [← hW] at hset
  refine ⟨_, hset, by rw [List.length_set]; exact hcl, fun k hk => ?_, (hM.nil hkN).other hko hR hg⟩
  rw [getD_set (by rw [hcl]; exact hj)]
  by_cases hjk : j = k
  · rw [if_pos hjk]
    exact ⟨wr.heap.size, 0, 1, rfl, by simp, by omega, hrow.keepS hko (fun e => by have : wr.heap.size = gm := e; omega), by omega, hR0, Nat.lt_of_lt_of_le hnlt hko.size⟩
  · rw [if_neg hjk]
    exact ((hV k (by omega)).keep hkN (fun _ _ _ h => h) (fun _ _ => rfl)).keep hko (fun _ h1 _ h2 => h1 h2) (fun _ _ => rfl)
theorem keep_step {ms : List (List Int)} (k j : Nat) : (if j < k + 1 then lastOf (ms.getD j []) else ms.getD j []) = if k = j then lastOf (ms.getD k []) else if j < k then lastOf (ms.getD j []) else ms.getD j [] := by
  by_cases h : k = j
  · subst h; rw [if_pos (by omega), if_pos rfl]
  · rw [if_neg h]
    by_cases h2 : j < k
    · rw [if_pos (by omega), if_pos h2]
    · rw [if_neg (by omega), if_neg h2]
theorem i64_one : (Lit.int .i64 1).wf = true := rfl
set_option maxRecDepth 100000 in
set_option maxHeartbeats 3200000 in
theorem diskKeeps_walk (a0 : Option Addr) (len0 cap0 : Nat) (z0 : List Int) (a1 : Option Addr) (len1 cap1 : Nat) (z1 : List Int) (a2 : Int) (w : World) {p : Nat → Addr} (w0 : IsRow .i64 w a0 len0 cap0 z0) (w1 : IsRow .i64 w a1 len1 cap1 z1) (wf2 : (Lit.int .i64 a2).wf = true) (hE : Err2 w p) :
    Calls Tryd.prog 4 #[.slice a0 len0 cap0, .slice a1 len1 cap1, .int .i64 a2] w fun e w' => e = .returned (.bool true) ∧ Keeps Nil w w' := by
  have HE := Lib.hid hE
  have HFI := Lib.hid (diskfirst_walk hE)
  have hr0 := Row.of_isRow w0
  have hr1 := Row.of_isRow w1
  have hw2 := i64_wf wf2
  have hcap1 : len1 ≤ cap1 ∧ cap1 ≤ 9223372036854775807 := by
    rcases w1 with ⟨_, rfl, rfl, _⟩ | ⟨x, _, h1, h2, _⟩
    · omega
    · unfold maxLen at h2; omega
  generalize z0.take len0 = ls at *
  generalize z1.take len1 = ks at *
  have HL := Lib.hid hr0
  have HKS := Lib.hid hr1
  have HNO : Hid (errO p none = .nilIface) := Lib.hid rfl
  have hm0 := hr0.most
  have hm1 := hr1.most
  clear hE w0 w1 wf2 hr0 hr1
  by_cases hlen : len0 ≤ 40 ∧ len1 ≤ 20
  · obtain ⟨hl0, hl1⟩ := hlen
    have hl0i : ¬ ((40 : Int) < len0) := by omega
    have hl1i : ¬ ((20 : Int) < len1) := by omega
    obtain ⟨sv, hsv⟩ : ∃ sv, sv = a2 % ((len0 : Int) + 1) := ⟨_, rfl⟩
    have HNA := Lib.hid (fun w => number_walk a2 ((len0 : Int) + 1) w hw2.1 hw2.2 (by omega) (by omega))
    rw [← hsv] at HNA
    clear hsv hw2
    go_enter Tryd.func4, Tryd.ntmps4
    go_wp2_with fail
    refine HFI.out.mono ?_
    rintro e w1 ⟨rfl, hk1⟩
    have HK1 := Lib.hid hk1
    have hnw := new_walk w1 5
    rw [show newN 5 = 5 by decide] at hnw
    have HNW := Lib.hid hnw
    clear hk1 hnw
    go_wp2_with fail
    refine HNW.out.mono ?_
    rintro e w2 hN
    obtain ⟨pd, R, rfl, hM⟩ := hN.mine
    have HM2 := Lib.hid (show Mine w w2 pd R (Dk.new 5) from ⟨hM.is, HK1.out.trans hM.keeps, fun k hk => Nat.le_trans HK1.out.size (hM.far k hk)⟩)
    clear hN hM HNW
    go_wp2_with fail
    refine (HNA.out _).mono ?_
    rintro e w3 ⟨rfl, rfl⟩
    obtain ⟨wA, gm, hgm, hbm, hwA, hkA⟩ := alloc1 w2 [.slice none 0 0, .slice none 0 0, .slice none 0 0, .slice none 0 0, .slice none 0 0] 39
    have HWA : Hid (w2.alloc (.cells #[.slice none 0 0, .slice none 0 0, .slice none 0 0, .slice none 0 0, .slice none 0 0] 39) = wA) := Lib.hid hwA.symm
    have HGM := Lib.hid hgm.symm
    have hRm : R gm = 0 := HM2.out.later (Nat.le_of_eq hgm.symm)
    have hgw : w.heap.size ≤ gm := by rw [hgm]; exact HM2.out.keeps.size
    have HMA := Lib.hid (HM2.out.nil hkA)
    have HBA := Lib.hid hbm
    have HGR := Lib.hid (And.intro hRm hgw)
    clear hgm hbm hwA hkA hRm hgw
    go_wp2_with fail
    rw [HWA.out, HGM.out]
    go_loopw [10] (fun x wr => ∃ (j : Nat) (cs : List Value), x = .int .i64 j ∧ j ≤ 5 ∧ Hid (Blk wr gm cs 39) ∧ Hid (cs.length = 5) ∧ Hid (∀ k, k < j → VB wr R gm (cs.getD k undef) [0]) ∧ Hid (Mine w wr pd R (Dk.new 5))) (fun x _ => 5 - (intOf x).toNat)
    case atStart => exact ⟨0, _, rfl, by omega, HBA, Lib.hid rfl, Lib.hid (fun k hk => by omega), HMA⟩
    case round =>
      obtain ⟨j, cs, rfl, hj, hB, hcl, hV, hMj⟩ := hrel
      by_cases hjn : j < 5
      · have hj1 : (j : Int) < 5 := by omega
        have hj0 : (0 : Int) ≤ j := by omega
        have hbg := hB.out.alloc (.cells #[.int .u8 0] 5)
        have hcc := hbg.cell j (v := cs.getD j undef) (by rw [List.getD_eq_getElem?_getD, List.getElem?_eq_getElem (by rw [hcl.out]; exact hjn)]; rfl)
        have hfz := hbg.frozen j
        have HX := Lib.hid (may_first hB.out hcl.out hV.out hMj.out HGR.out.1 HGR.out.2 hjn _ rfl)
        clear hbg
        go_wp2_with (refine wpList_bs rfl 25 5 1 _ rfl [.int .u8 0] Tryd.underlying25 Tryd.bs8 rfl (by decide) (by decide) rfl (by simp [Value.cells]) ?_)
        obtain ⟨cs', h1, h2, h3, h4⟩ := HX.out
        exact ⟨⟨j + 1, cs', by go_num, by omega, Lib.hid h1, Lib.hid h2, Lib.hid h3, Lib.hid h4⟩, by first | (simp [intOf]; done) | (simp [intOf]; omega)⟩
      · have hj5 : ¬ ((j : Int) < 5) := by omega
        have hj6 : 5 ≤ j := by omega
        have HMI : Hid (MayIs wr R gm cs (fun k => may0.getD k [])) := Lib.hid ⟨hB.out, hcl.out, fun k hk => by rw [may0_at hk]; exact hV.out k (by omega), HGR.out.1⟩
        have HM5 := hMj
        clear hB hcl hV hMj HMA HBA HM2 hjn
        go_wp2_with fail
        go_loopw [11, 12, 13] (fun x y z wr => ∃ (i : Nat) (R : Roles) (d : Dk) (ms : List (List Int)) (cs : List Value), x = .int .i64 i ∧ i ≤ len0 ∧ Hid (Mine w wr pd R d) ∧ Hid (KeepI d ms (i + 1)) ∧ Hid (MayIs wr R gm cs (fun k => ms.getD k []))) (fun x _ _ _ => len0 - (intOf x).toNat)
        case atStart => exact ⟨0, R, _, _, cs, rfl, Nat.zero_le _, HM5, Lib.hid keepI_zero, HMI⟩
        case round =>
          obtain ⟨i, Ri, d, ms, cs2, rfl, hi, hM, hI, hY⟩ := hrel
          have HGR2 : Hid (Ri gm = 0 ∧ True) := Lib.hid ⟨hY.out.role, trivial⟩
          by_cases hin : i < len0
          · have hi1 : (i : Int) < len0 := by omega
            go_upto_if 54 with fail
            generalize hbo : ((i : Int) == sv) = bo
            go_cut [12] from 55 to 73 (fun y wx => ∃ (d' : Dk) (ms' : List (List Int)) (cs' : List Value), Hid (Mine w wx pd Ri d') ∧ Hid (KeepI d' ms' (i + 1)) ∧ Hid (MayIs wx Ri gm cs' (fun k => ms'.getD k [])))
            case first =>
              cases bo with
              | true =>
                have hs := eq_of_beq hbo
                clear hbo
                subst hs
                go_wp2_with fail
                refine (mine_sync HE.out hM.out hI.out.ok (by omega)).mono ?_
                rintro e w4 ⟨rfl, hM4, hk4⟩
                have HSY := Lib.hid (hI.out.sync (by omega))
                rw [HSY.out.1, HNO.out]
                have HM4 := Lib.hid hM4
                have HY4 := Lib.hid (hY.out.wr hk4)
                clear hM4 hk4
                obtain ⟨wo, hwo⟩ : ∃ x, x = wr := ⟨_, rfl⟩
                subst hwo
                go_wp2_with fail
                go_loopw [12] (fun y wr => ∃ (k : Nat) (cs' : List Value), y = .int .i64 k ∧ k ≤ 5 ∧ Hid (Mine w wr pd Ri d.sync.1) ∧ Hid (MayIs wr Ri gm cs' (fun j => if j < k then lastOf (ms.getD j []) else ms.getD j []))) (fun y _ => 5 - (intOf y).toNat)
                case atStart => exact ⟨0, cs2, rfl, by omega, HM4, Lib.hid (HY4.out.same (fun k _ => if_neg (by omega)))⟩
                case round =>
                  obtain ⟨k, cs', rfl, hk, hMk, hYk⟩ := hrel
                  by_cases hk5 : k < 5
                  · have hkI : (k : Int) < 5 := by omega
                    obtain ⟨g, o, c, hv, hnc, hcx, hrow, hgm, hRg, hgl⟩ := hYk.out.each k hk5
                    simp only [if_neg (show ¬ k < k by omega)] at hv hnc hrow
                    have hcell := hYk.out.cell hk5
                    have hfz := hYk.out.blk.frozen k
                    rw [hv] at hcell
                    have hne := hI.out.pos k hk5
                    obtain ⟨r, hr⟩ : ∃ r, (ms.getD k []).length = r + 1 := ⟨(ms.getD k []).length - 1, by have := List.length_pos_iff.2 hne; omega⟩
                    have hlast := VB.last hne hnc hcx hrow hgm hRg hgl
                    rw [hr] at hcell hnc hlast
                    rw [show r + 1 - 1 = r by omega] at hlast
                    have HST := Lib.hid (And.intro (hYk.out.set hk5 hlast) (hMk.out.may ((Keeps.refl (One gm) wr).setOne k (.slice (some ⟨g, o + r, none⟩) 1 (c - r))) HGR2.out.1 HGR.out.2))
                    have hwp : IntKind.i64.wrap (((r + 1 : Nat) : Int) - 1) = (r : Int) := by rw [show ((r + 1 : Nat) : Int) - 1 = (r : Int) by omega]; exact IntWalk.i64_in _ (by omega)
                    have hr0 : (0 : Int) ≤ r := by omega
                    have hrx : (r : Int) ≤ 1000000 := by
                      have h1 := hI.out.ok.at_ (i := k) (by rw [hI.out.len]; exact hk5)
                      rw [hI.out.at_ k hk5, List.length_map] at h1
                      omega
                    have hcr : ¬ c = r := by omega
                    clear hv hrow hne hlast hr
                    go_wp2_with fail
                    go_region
                    have HN2 := Lib.hid (And.intro (HST.out.1.nil (Keeps.refl Nil _).drew) (HST.out.2.nil (Keeps.refl Nil _).drew))
                    clear HST hcell hfz hwp
                    generalize (wr.setCell ⟨gm, k, none⟩ (.slice (some ⟨g, o + r, none⟩) 1 (c - r))).drew = wn at *
                    go_wp2_with fail
                    go_roundw
                    case rel => first | exact ⟨k + 1, _, by go_num, by omega, Lib.hid HN2.out.2, Lib.hid (HN2.out.1.same (fun j hj => keep_step k j))⟩ | ((repeat apply Exists.intro); exact ⟨⟨k + 1, _, by go_num, by omega, Lib.hid HN2.out.2, Lib.hid (HN2.out.1.same (fun j hj => keep_step k j))⟩, rfl⟩)
                    case measure => first | (simp [intOf]; done) | (simp [intOf]; omega)
                  · obtain rfl : k = 5 := by omega
                    go_wp2_with fail
                    go_meet
                    exact ⟨_, _, cs', hMk, Lib.hid HSY.out.2, Lib.hid (hYk.out.same (fun j hj => by rw [if_pos hj, map_getD (e := []) (by rw [hI.out.mlen]; exact hj)]))⟩
              | false =>
                clear hbo
                go_wp2_with fail
                go_meet
                exact ⟨d, ms, cs2, hM, hI, hY⟩
            case rest =>
            clear hbo
            obtain ⟨d2, ms2, cs3, hM2, hI2, hY2⟩ := hcut
            obtain ⟨bk, offk, hak, hbk, hck⟩ := HL.out.cell (by omega)
            subst hak
            have hci := hM2.out.keeps.cell (hck i hin) (fun h => h)
            have hxw := i64_wf (HL.out.wf (ls.getD i 0) (getD_mem3 HL.out.llen hin))
            generalize ls.getD i 0 = x at *
            obtain ⟨kk, hkk⟩ := Int.eq_ofNat_of_zero_le (Int.emod_nonneg x (b := 5) (by omega))
            have hkk5 : kk < 5 := by have := Int.emod_lt_of_pos x (b := 5) (by omega); omega
            have HNX := Lib.hid (fun w => number_walk x 5 w hxw.1 hxw.2 (by omega) (by omega))
            rw [hkk] at HNX
            have hi0 : (0 : Int) ≤ i := by omega
            clear hxw hkk hck hM hI hY HGR2
            go_wp2_with fail
            refine (HNX.out _).mono ?_
            rintro e w5 ⟨rfl, rfl⟩
            obtain ⟨g, o, c, hv, hnc, hcx, hrow, hgm, hRg, hgl⟩ := hY2.out.each kk hkk5
            have hcell := hY2.out.cell hkk5
            rw [hv] at hcell
            have hll : (ms2.getD kk []).length ≤ 41 := by
              have h1 := hI2.out.ok.at_ (i := kk) (by rw [hI2.out.len]; exact hkk5)
              rw [hI2.out.at_ kk hkk5, List.length_map] at h1
              omega
            have HBY := Lib.hid (refBytes_walk (cap := c) hrow (by omega))
            have hbyt := hI2.out.bytes kk hkk5
            have hkI : (kk : Int) < 5 := by omega
            generalize hbs : ms2.getD kk [] = bs at *
            have HBS := Lib.hid (And.intro hbs hbyt)
            clear hv hrow hbs hbyt hci hgm hRg hgl hnc hcx
            go_wp2_with fail
            refine HBY.out.mono ?_
            rintro e w6 ⟨ab, cb, rfl, ho6, hk6, hf6⟩
            have HK6 := Lib.hid (And.intro hk6 hf6)
            have HO6 := Lib.hid ho6
            clear hk6 hf6 ho6 hcell
            go_wp2_with (first | (refine wpList_bs rfl 25 5 1 _ rfl [.int .u8 ((i : Int) + 1)] Tryd.underlying25 Tryd.bs8 rfl (by decide) (by decide) rfl (by simp [Value.cells]) ?_) | (at_builtin; go_must (refine wpl_append rfl _ _ 25 rfl 5 1 1 Tryd.underlying25 Tryd.info8s (by omega) ab cb bs.length _ rfl (HO6.out.keep0 ((Keeps.refl _ _).alloc _)) _ 1 1 [.int .u8 ((i : Int) + 1)] rfl (Src.one (Blk.new _ _ _) rfl) (by unfold maxLen; omega) (by omega) ?_)))
            intro a7 c7 w7 ho7 hk7 hf7 _
            have hka : Keeps Nil wc w7 := (HK6.out.1.alloc _).step hk7 (fun m hm => .inr (HK6.out.2 m hm))
            have HY7 := Lib.hid (hY2.out.nil hka)
            have HM7 := Lib.hid (hM2.out.nil hka)
            have hb9 : AreB (bs ++ [(i : Int) + 1]) := areB_append HBS.out.2 (fun y hy => by rw [List.mem_singleton.1 hy]; omega)
            have hlb : (bs ++ [(i : Int) + 1]).length = bs.length + 1 := by simp
            have ho8 : Own w7 5 1 a7 c7 (bs.length + 1) (byteV (bs ++ [(i : Int) + 1])) := by rw [byteV_append]; exact ho7
            obtain ⟨g7, hg7, hgl7, _⟩ := ho8.some (by omega)
            subst hg7
            have hf8 : wc.heap.size ≤ g7 := by
              rcases hf7 g7 ((blkOf_some _ _ _ _).2 rfl) with h' | h'
              · exact HK6.out.2 g7 h'
              · have := HK6.out.1.size; rw [h']; simp; omega
            have hmc : c7 ≤ 9223372036854775807 := by have := ho8.2.2.1; unfold maxLen at this; exact this
            have hVB : VB w7 Ri gm (.slice (some ⟨g7, 0, none⟩) (bs.length + 1) c7) (bs ++ [(i : Int) + 1]) :=
              ⟨g7, 0, c7, by rw [hlb], by rw [hlb]; exact ho8.2.1, hmc, by rw [hlb]; exact ho8.row (areB_wf hb9), by have := hY2.out.blk.lt; omega, hM2.out.later hf8, hgl7⟩
            have hc7 := HY7.out.cell hkk5
            have hz7 := HY7.out.blk.frozen kk
            have HST := Lib.hid (And.intro (HY7.out.set hkk5 hVB) (HM7.out.may ((Keeps.refl (One gm) w7).setOne kk (.slice (some ⟨g7, 0, none⟩) (bs.length + 1) c7)) HY7.out.role HGR.out.2))
            clear ho7 hk7 hf7 hka hb9 hlb ho8 hf8 hmc hVB hgl7
            have hFw := fun w => filled_walk w ((i : Int) + 1)
            have hfl := fillL_len ((i : Int) + 1)
            have hfb := fillL_bytes ((i : Int) + 1)
            have HIN := Lib.hid (hI2.out.write hkk5 (b := (i : Int) + 1) (by omega))
            generalize fillL ((i : Int) + 1) = FF at *
            have HFW := Lib.hid hFw
            have HFF := Lib.hid (And.intro hfl hfb)
            clear hFw hfl hfb
            go_wp2_with fail
            refine (HFW.out _).mono ?_
            rintro e w8 ⟨g8, rfl, _, hb8, hk8⟩
            have HW := Lib.hid (mine_write HE.out (HST.out.2.nil hk8) hI2.out.ok (by omega) kk (cb := 128) (hb8.row8 HFF.out.2 HFF.out.1 (by omega)))
            have HY8 := Lib.hid (HST.out.1.nil hk8)
            clear hb8 hk8 HST hc7 hz7
            go_wp2_with fail
            refine HW.out.mono ?_
            rintro e w9 ⟨R9, rfl, hM9, hG9⟩
            rw [HIN.out.1, HNO.out]
            have HM9 := Lib.hid hM9
            have HY9 := Lib.hid (HY8.out.grew hG9)
            clear hM9 hG9 HW HY8
            go_wp2_with fail
            exact ⟨⟨i + 1, R9, _, _, _, by go_num, by omega, HM9, Lib.hid HIN.out.2, Lib.hid (HY9.out.same (fun j hj => by rw [getD_set (by rw [hI2.out.mlen]; exact hkk5), HBS.out.1]))⟩, by first | (simp [intOf]; done) | (simp [intOf]; omega)⟩
          · obtain rfl : i = len0 := by omega
            have hkR : 0 < len1 → ∀ m, blkOf a1 m → Ri m = 0 := fun h0 m hm => by
              obtain ⟨bk, offk, hak, hbk, _⟩ := HKS.out.cell h0
              subst hak
              rw [blkOf_some] at hm
              rcases Nat.eq_zero_or_pos (Ri m) with h1 | h1
              · exact h1
              · have := hM.out.far m (by omega); omega
            have HC := Lib.hid (crash_walk hM.out.is hI.out.ok (by omega) (HKS.out.keep hM.out.keeps) hcap1.1 hcap1.2 hkR)
            have HCR := Lib.hid (hI.out.crash (by omega) ks)
            have hii : ¬ ((i : Int) < i) := by omega
            clear hkR
            go_wp2_with fail
            refine HC.out.mono ?_
            rintro e w4 ⟨rfl, hD4, hk4⟩
            have HM4 := Lib.hid (hM.out.wrote hD4 hk4)
            have HY4 := Lib.hid (hY.out.wr hk4)
            have HPO := Lib.hid (And.intro hI.out.pos hI.out.bytes)
            have HLE := Lib.hid (fun k (hk : k < 5) => show (ms.getD k []).length ≤ 41 by
              have h1 := hI.out.ok.at_ (i := k) (by rw [hI.out.len]; exact hk)
              rw [hI.out.at_ k hk, List.length_map] at h1
              omega)
            have HOK := Lib.hid (show (d.crash ks).Ok 1000 from HCR.out.2.1.mono (by omega))
            clear hD4 hk4 HC hM hI hY HMI HM5
            generalize d.crash ks = dC at *
            go_wp2_with fail
            go_loopw [14, 15, 16, 17, 18] (fun x _ _ _ _ wr => ∃ (k : Nat), x = .int .i64 k ∧ k ≤ 5 ∧ Hid (Mine w wr pd Ri dC) ∧ Hid (MayIs wr Ri gm cs2 (fun k => ms.getD k []))) (fun x _ _ _ _ _ => 5 - (intOf x).toNat)
            case atStart => exact ⟨0, rfl, by omega, HM4, HY4⟩
            case round =>
              obtain ⟨k, rfl, hk, hMk, hYk⟩ := hrel
              by_cases hk5 : k < 5
              · have hkI : (k : Int) < 5 := by omega
                have hr := mine_read HE.out hMk.out HOK.out k
                obtain ⟨he, jg, hjg, hvv⟩ := HCR.out.2.2 k hk5
                rw [he, hvv, fillL_len, HNO.out] at hr
                have HR := Lib.hid hr
                clear hr he hvv
                go_wp2_with fail
                refine HR.out.mono ?_
                rintro e w5 ⟨ar, cr, rfl, ho5, hM5, hk5w, _⟩
                have hY5 := hYk.out.nil hk5w
                obtain ⟨g, o, c, hv, hnc, hcx, hrow, hgm, hRg, hgl⟩ := hY5.each k hk5
                have hcell := hY5.cell hk5
                rw [hv] at hcell
                have hll := HLE.out k hk5
                have hbyt := HPO.out.2 k hk5
                have HM5 := Lib.hid hM5
                have HY5 := Lib.hid hY5
                have HRW := Lib.hid (And.intro (ho5.row (areB_wf (fillL_bytes _))) (And.intro hrow hbyt))
                generalize hbs : ms.getD k [] = bs at *
                have HJ := Lib.hid hjg
                clear hv hrow hbyt hbs hjg ho5 hM5 hk5w hY5 hgm hRg hgl HR
                go_wp2_with fail
                go_loopw [17, 18] (fun x y wr => ∃ (j : Nat) (bo : Bool), x = .bool bo ∧ y = .int .i64 j ∧ j ≤ bs.length ∧ Hid (jg < j → bo = true) ∧ Hid (Keeps Nil w5 wr)) (fun _ y _ => bs.length - (intOf y).toNat)
                case atStart => exact ⟨0, false, rfl, rfl, Nat.zero_le _, Lib.hid (fun h => by omega), Lib.hid (Keeps.refl _ _)⟩
                case round =>
                  obtain ⟨j, bo, rfl, rfl, hjb, hbo, hkj⟩ := hrel
                  have hcl2 := hkj.out.cell hcell (fun h => h)
                  by_cases hjl : j < bs.length
                  · have hj1 : (j : Int) < bs.length := by omega
                    have hj0 : (0 : Int) ≤ j := by omega
                    obtain ⟨b1, o1, hae, _, hc1⟩ := HRW.out.2.1.cell (by omega)
                    cases hae
                    have hcj := hkj.out.cell (hc1 j hjl) (fun h => h)
                    have hbb := HRW.out.2.2 (bs.getD j 0) (getD_mem3 rfl hjl)
                    have HGJ := Lib.hid (show jg = j → bs.getD jg 0 = bs.getD j 0 from fun h => by rw [h])
                    generalize bs.getD j 0 = bj at *
                    have hb0 := hbb.1
                    have hb1 := hbb.2
                    clear hbb hc1
                    cases bo with
                    | true =>
                      go_wp2_with fail
                      exact ⟨⟨j + 1, true, rfl, by go_num, by omega, Lib.hid (fun _ => rfl), hkj⟩, by first | (simp [intOf]; done) | (simp [intOf]; omega)⟩
                    | false =>
                      go_wp2_with fail
                      refine (filled_walk _ bj).mono ?_
                      rintro e w8 ⟨g8, rfl, _, hb8, hk8⟩
                      have HS := Lib.hid (sameBytes_walk (ca := cr) (cb := 128) ((HRW.out.1.keep hkj.out).keep hk8) (hb8.row8 (fillL_bytes bj) (fillL_len bj) (by omega)))
                      have HK8 := Lib.hid (hkj.out.trans hk8)
                      clear hb8 hk8 hcl2 hcj
                      go_wp2_with fail
                      refine HS.out.mono ?_
                      rintro e w9 ⟨rfl, hd9⟩
                      have HK9 := Lib.hid (HK8.out.trans (hd9.keeps Nil))
                      have HB9 : Hid (jg < j + 1 → sameL (fillL (bs.getD jg 0)) (fillL bj) = true) := Lib.hid (fun h => by
                        by_cases hj9 : jg = j
                        · rw [HGJ.out hj9, sameL_refl]
                        · have := hbo.out (by omega); cases this)
                      clear hd9 HS HK8 HGJ
                      generalize sameL (fillL (bs.getD jg 0)) (fillL bj) = sb at *
                      go_wp2_with fail
                      exact ⟨⟨j + 1, sb, rfl, by go_num, by omega, HB9, HK9⟩, by first | (simp [intOf]; done) | (simp [intOf]; omega)⟩
                  · have hbt := hbo.out (by have := HJ.out; omega)
                    subst hbt
                    have hjj : ¬ ((j : Int) < bs.length) := by omega
                    have HMY := Lib.hid (And.intro (HM5.out.nil hkj.out) (HY5.out.nil hkj.out))
                    clear hbo
                    go_wp2_with fail
                    exact ⟨⟨k + 1, by go_num, by omega, Lib.hid HMY.out.1, Lib.hid HMY.out.2⟩, by first | (simp [intOf]; done) | (simp [intOf]; omega)⟩
              · have hk5n : ¬ ((k : Int) < 5) := by omega
                have ho := off_walk hMk.out.is
                rw [HCR.out.1] at ho
                have HO := Lib.hid ho
                clear ho
                go_wp2_with fail
                refine HO.out.mono ?_
                rintro e w5 ⟨rfl, rfl⟩
                have HF := Lib.hid hMk.out.keeps
                go_wp2_with fail
                go_ret
                exact ⟨rfl, HF.out⟩
  · have key : (40 : Int) < len0 ∨ (¬ ((40 : Int) < len0) ∧ (20 : Int) < len1) := by omega
    clear hlen
    rcases key with h1 | ⟨h1, h2⟩
    all_goals
      go_enter Tryd.func4, Tryd.ntmps4
      go_wp2_with fail
      refine HFI.out.mono ?_
      rintro e w1 ⟨rfl, hk1⟩
      have HK1 := Lib.hid hk1
      clear hk1
      go_wp2_with fail
      go_ret
      exact ⟨rfl, HK1.out⟩
end Go.Proofs.YtkefbgkdkmkghaaDoor
