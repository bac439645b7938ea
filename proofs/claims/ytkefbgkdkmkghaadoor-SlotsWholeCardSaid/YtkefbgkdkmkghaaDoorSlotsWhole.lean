/-
  SlotsWhole: wherever power goes.
-/
import Derived.Test.YtkefbgkdkmkghaaDoorSlotsSt
namespace Go.Proofs.YtkefbgkdkmkghaaDoor
set_option linter.unusedSimpArgs false
set_option linter.unusedVariables false
open Go.RowKit

theorem old_zero {k : IntKind} {w0 w : World} {p : Nat} {R : Roles} {d : Dk} (h : Mine w0 w p R d) {a : Option Addr} {n : Nat} {l : List Int} (hr : Row k w0 a n l) (h0 : 0 < n) : ∀ x, blkOf a x → R x = 0 := fun x hx => by
  obtain ⟨b, off, e, hb, _⟩ := hr.cell h0
  subst e
  rw [(blkOf_some _ _ _ _).1 hx]
  rcases Nat.eq_zero_or_pos (R b) with h1 | h1
  · exact h1
  · have := h.far b (by omega); omega
theorem St.fuse {w0 w w' : World} {p g : Nat} {R : Roles} {n : Nat} {s : Sv} {c : List Int} {d : Dk} (h : St w0 w p g R n s c d) {k : Int} (hk0 : k ≤ 9223372036854775807) (hD : IsDisk w' p R (d.fuse k)) (hk : Keeps (Wr R) w w') : St w0 w' p g R n s c (d.fuse k) :=
  ⟨h.mine.wrote hD hk, h.sl.keep hk (wr_not h.rg), h.rg, h.gw, ⟨h.clean.len, h.clean.at_⟩, h.st, h.off, ⟨h.ok.some, h.ok.most, h.ok.each, h.ok.size, by show -1 ≤ max k (-1) ∧ max k (-1) ≤ _; omega⟩, h.h1, h.hn⟩
/-- Bytes that stand where no disk writes. -/
structure Aside (w : World) (R : Roles) (g : Nat) (a : Option Addr) (n : Nat) (l : List Int) : Prop where
  row : Row .u8 w a n l
  away : 0 < n → ∀ x, blkOf a x → R x = 0 ∧ x ≠ g
theorem Aside.lt {w : World} {R : Roles} {g : Nat} {a : Option Addr} {n : Nat} {l : List Int} (h : Aside w R g a n l) (h0 : 0 < n) : ∀ x, blkOf a x → x < w.heap.size := fun x hx => by
  obtain ⟨b, off, e, hb, _⟩ := h.row.cell h0
  subst e
  rw [(blkOf_some _ _ _ _).1 hx]; exact hb
theorem Aside.step {w w' : World} {R R' : Roles} {g : Nat} {a : Option Addr} {n : Nat} {l : List Int} (h : Aside w R g a n l) (hk : Keeps (fun k => Wr R k ∨ k = g) w w') (hR : ∀ k, k < w.heap.size → R' k = R k) : Aside w' R' g a n l :=
  ⟨h.row.keepN hk (fun h0 x hx hh => hh.elim (wr_not (h.away h0 x hx).1) (h.away h0 x hx).2), fun h0 x hx => ⟨by rw [hR x (h.lt h0 x hx)]; exact (h.away h0 x hx).1, (h.away h0 x hx).2⟩⟩
theorem Aside.grew {w w' : World} {R R' : Roles} {g : Nat} {a : Option Addr} {n : Nat} {l : List Int} (h : Aside w R g a n l) (hG : Grew w w' R R') : Aside w' R' g a n l :=
  h.step (hG.keeps.mono (fun k hk => .inl hk)) hG.same
theorem Aside.nil {w w' : World} {R : Roles} {g : Nat} {a : Option Addr} {n : Nat} {l : List Int} (h : Aside w R g a n l) (hk : Keeps Nil w w') : Aside w' R g a n l := h.grew (Grew.of_nil R hk)
theorem Aside.to {w : World} {R : Roles} {g g' : Nat} {a : Option Addr} {n : Nat} {l : List Int} (h : Aside w R g a n l) (hg : 0 < n → ∀ x, blkOf a x → x < g') : Aside w R g' a n l := ⟨h.row, fun h0 x hx => ⟨(h.away h0 x hx).1, by have := hg h0 x hx; omega⟩⟩
set_option maxRecDepth 100000 in
set_option maxHeartbeats 6400000 in
theorem slotsWhole_walk (a0 : Option Addr) (len0 cap0 : Nat) (z0 : List Int) (a1 : Option Addr) (len1 cap1 : Nat) (z1 : List Int) (a2 : Option Addr) (len2 cap2 : Nat) (z2 : List Int) (w : World) {p : Nat → Addr} (w0 : IsRow .i64 w a0 len0 cap0 z0) (w1 : IsRow .i64 w a1 len1 cap1 z1) (w2 : IsRow .i64 w a2 len2 cap2 z2) (hE : Errs w p) :
    Calls Tryd.prog 10 #[.slice a0 len0 cap0, .slice a1 len1 cap1, .slice a2 len2 cap2] w fun e w' => e = .returned (.bool true) ∧ Keeps Nil w w' := by
  have HE := Lib.hid hE
  have HFI := Lib.hid (slotsfirst_walk hE.s)
  have hr0 := Row.of_isRow w0
  have hr1 := Row.of_isRow w1
  have hr2 := Row.of_isRow w2
  have hcap2 : len2 ≤ cap2 ∧ cap2 ≤ 9223372036854775807 := by
    rcases w2 with ⟨_, rfl, rfl, _⟩ | ⟨x, _, h1, h2, _⟩
    · omega
    · unfold maxLen at h2; omega
  generalize z0.take len0 = l0 at *
  generalize z1.take len1 = l1 at *
  generalize z2.take len2 = ks at *
  have HR0 := Lib.hid hr0
  have HR1 := Lib.hid hr1
  have HR2 := Lib.hid hr2
  have HC2 := Lib.hid hcap2
  have hnw := fun w => new_walk w 15
  rw [show newN 15 = 15 by decide] at hnw
  have HNW := Lib.hid hnw
  have HNO : Hid (errO p none = .nilIface) := Lib.hid rfl
  clear hE hnw w0 w1 w2 hr0 hr1 hr2 hcap2
  go_enter Tryd.func10, Tryd.ntmps10
  go_wp2_with fail
  refine HFI.out.mono ?_
  rintro e w1 ⟨rfl, hk1⟩
  have HK1 := Lib.hid hk1
  clear HFI hk1
  by_cases hb1 : 12 < len0
  · have hbi : (12 : Int) < len0 := by omega
    go_wp2_with fail
    go_ret
    exact ⟨rfl, HK1.out⟩
  · have hbi : ¬ (12 : Int) < len0 := by omega
    by_cases hb2 : len1 < len0
    · have hbj : (len1 : Int) < len0 := by omega
      go_wp2_with fail
      go_ret
      exact ⟨rfl, HK1.out⟩
    · have hbj : ¬ (len1 : Int) < len0 := by omega
      by_cases hb3 : 40 < len2
      · have hbl : (40 : Int) < len2 := by omega
        go_wp2_with fail
        go_ret
        exact ⟨rfl, HK1.out⟩
      · have hbl : ¬ (40 : Int) < len2 := by omega
        go_wp2_with fail
        refine (HNW.out w1).mono ?_
        rintro e w2 hN
        obtain ⟨pp, R, rfl, hMi⟩ := hN.mine
        have HEW := Lib.hid (HE.out.keep HK1.out)
        have HS0 := Lib.hid (HR0.out.keep HK1.out)
        have HS1 := Lib.hid (HR1.out.keep HK1.out)
        have HS2 := Lib.hid (HR2.out.keep HK1.out)
        have HO := Lib.hid (open_new HEW.out.s hMi (by omega) (by omega))
        clear hN hMi HNW HR0 HR1 HR2
        go_wp2_with fail
        refine HO.out.mono ?_
        rintro e w3 ⟨g0, R3, rfl, hS3, _, _⟩
        have HS3 := Lib.hid hS3
        have HL3 : Hid (((Dk.new 15).cleaned ⟨0, 0, 0⟩).left = -1) := Lib.hid (cleaned_left _ _).1
        generalize (Dk.new 15).cleaned ⟨0, 0, 0⟩ = d3 at *
        clear hS3 HO
        go_wp2_with fail
        go_loopw [12, 11, 9, 13, 14, 15, 16, 17, 18, 19, 20, 21] (fun x y z _ _ _ _ _ _ _ _ _ wr => ∃ (i : Nat) (g : Nat) (R' : Roles) (d : Dk) (s : Sv) (c : List Int) (aw : Option Addr) (nw cw : Nat), x = .int .i64 i ∧ y = .slice aw nw cw ∧ z = .pointer (some ⟨g, 0, none⟩) ∧ i ≤ len0 ∧ Hid (St w1 wr pp g R' 15 s c d) ∧ Hid (d.left = -1) ∧ Hid (s.seq ≤ i) ∧ Hid (Aside wr R' g aw nw c)) (fun x _ _ _ _ _ _ _ _ _ _ _ _ => len0 - (intOf x).toNat)
        case atStart =>
          exact ⟨0, g0, R3, d3, ⟨0, 0, 0⟩, [], none, 0, 0, rfl, rfl, rfl, Nat.zero_le _, HS3, HL3, Lib.hid (Nat.zero_le _), Lib.hid ⟨row_none w3, fun h => absurd h (by omega)⟩⟩
        case round =>
          obtain ⟨i, g, R', d, s, c, aw, nw, cw, rfl, rfl, rfl, hi, hSt, hLe, hSq, hAs⟩ := hrel
          by_cases hil : i < len0
          · have hii : (i : Int) < len0 := by omega
            have hij : (i : Int) < len1 := by omega
            obtain ⟨ba, oa, e0, _, hc0⟩ := (HS0.out.keep hSt.out.mine.keeps).cell (by omega)
            obtain ⟨bf, of', e1, _, hc1⟩ := (HS1.out.keep hSt.out.mine.keeps).cell (by omega)
            subst e0 e1
            have hcell0 := hc0 i hil
            have hcell1 := hc1 i (by omega)
            have hx0 := i64_wf (HS0.out.wf (l0.getD i 0) (by have := HS0.out.llen; simp [List.getD, show i < l0.length by omega]))
            have hx1 := i64_wf (HS1.out.wf (l1.getD i 0) (by have := HS1.out.llen; simp [List.getD, show i < l1.length by omega]))
            generalize l0.getD i 0 = X at *
            generalize l1.getD i 0 = Y at *
            obtain ⟨k, hk⟩ : ∃ k : Nat, X % 800 = (k : Int) := ⟨(X % 800).toNat, by omega⟩
            have hk800 : k ≤ 799 := by omega
            obtain ⟨m, hm⟩ : ∃ m : Nat, Y % 30 = (m : Int) := ⟨(Y % 30).toNat, by omega⟩
            have hm30 : m ≤ 29 := by omega
            have hn0 := fun w' => number_walk X 800 w' hx0.1 hx0.2 (by omega) (by omega)
            have hn1 := fun w' => number_walk Y 30 w' hx1.1 hx1.2 (by omega) (by omega)
            rw [hk] at hn0
            rw [hm] at hn1
            have HN0 := Lib.hid hn0
            have HN1 := Lib.hid hn1
            have hfl := file_walk ((i : Int) + 1) k wr (by omega)
            obtain ⟨b, hb⟩ : ∃ b, b = fileL ((i : Int) + 1) k := ⟨_, rfl⟩
            have hbl : b.length = k := by rw [hb]; exact fileL_len _ _
            have hbb : AreB b := by rw [hb]; exact fileL_bytes _ _
            rw [← hb] at hfl
            have HFL := Lib.hid hfl
            have HBL := Lib.hid hbl
            have HBB := Lib.hid hbb
            clear hc0 hc1 hx0 hx1 hk hm hn0 hn1 hfl hb hbl hbb
            go_wp2_with fail
            refine (HN0.out wr).mono ?_
            rintro e w4 ⟨rfl, rfl⟩
            go_wp2_with fail
            refine HFL.out.mono ?_
            rintro e w4 ⟨ab, cb, rfl, hob, hk4, hfb⟩
            rw [HBL.out] at hob ⊢
            have hcb := hob.2.1
            have hcx := hob.2.2.1
            unfold maxLen at hcx
            have HB4 : Hid (Aside w4 R' g ab k b) := Lib.hid ⟨hob.row (areB_wf HBB.out), fun _ x hx => ⟨hSt.out.mine.later (hfb x hx), by have := hSt.out.sl.lt; have := hfb x hx; omega⟩⟩
            have HS4 := Lib.hid (hSt.out.nil hk4)
            have HA4 := Lib.hid (hAs.out.nil hk4)
            have hcell1' := hk4.cell hcell1 (fun h => h)
            clear hob hfb HFL HN0 hcell0 hcell1 hk4 hSt hAs
            go_wp2_with fail
            refine (HN1.out w4).mono ?_
            rintro e w5 ⟨rfl, rfl⟩
            have HFU := Lib.hid (fuse_walk HS4.out.mine.is (m : Int))
            clear hcell1' HN1
            go_wp2_with fail
            refine HFU.out.mono ?_
            rintro e w5 ⟨rfl, hD5, hk5⟩
            have HS5 := Lib.hid (HS4.out.fuse (by omega) hD5 hk5)
            have HB5 := Lib.hid (HB4.out.grew (grew_of hk5))
            have HA5 := Lib.hid (HA4.out.grew (grew_of hk5))
            generalize d.fuse (m : Int) = d5 at *
            clear hD5 hk5 HFU HS4 HB4 HA4
            have HSV := Lib.hid (save_st HEW.out.s HS5.out HB5.out.row hcb (by omega) (fun h0 x hx => (HB5.out.away h0 x hx).1) (by omega) (by have := hSq.out; omega))
            go_wp2_with fail
            refine HSV.out.mono ?_
            rintro e w6 ⟨R6, D6, s6, o, rfl, hSv, hM6, _, _, hok6, hk6, hR6⟩
            have HM6 := Lib.hid hM6
            have HOK6 := Lib.hid hok6
            have HB := Lib.hid (HB5.out.step hk6 hR6)
            have HA := Lib.hid (HA5.out.step hk6 hR6)
            obtain ⟨ch, hBk⟩ := save_back hSv (by omega) ks
            have hdone := hBk.done
            have herr := hBk.err
            dsimp only at hdone herr
            obtain ⟨S, hS⟩ : ∃ S, S = if ch then nextSv s b.length else s := ⟨_, rfl⟩
            obtain ⟨C, hC⟩ : ∃ C, C = if ch then b else c := ⟨_, rfl⟩
            have HNR := Lib.hid hBk.near
            have HON := Lib.hid hBk.ones
            dsimp only at HNR HON
            rw [← hS, ← hC] at HNR
            have HST : Hid (IsState 15 S C) := Lib.hid (by
              rw [hS, hC]
              cases ch with
              | true => exact nx_state HS5.out.st HBB.out (by rw [HBL.out]; omega) (by have := hSq.out; omega)
              | false => exact HS5.out.st)
            have HSQ : Hid (S.seq ≤ i + 1) := Lib.hid (by
              rw [hS]
              have := hSq.out
              cases ch with
              | true => show s.seq + 1 ≤ i + 1; omega
              | false => show s.seq ≤ i + 1; omega)
            clear hSv hM6 hok6 hk6 hR6 hBk hS HSV HS5 HB5 HA5
            rcases herr with herr | herr
            · subst herr
              have hct := hdone rfl
              rw [hct, if_pos rfl] at hC
              have HEQ : Hid (sameL C b = true ∨ sameL C b = true) := Lib.hid (.inl (by rw [hC]; exact sameL_eq.2 rfl))
              rw [HNO.out]
              have HW := HB
              clear HA hct hdone hC HBL
              have HCR := Lib.hid (crash_walk HM6.out.is HOK6.out (by omega) (HS2.out.keep HM6.out.keeps) HC2.out.1 HC2.out.2 (fun h0 => old_zero HM6.out HS2.out h0))
              go_wp2_with fail
              refine HCR.out.mono ?_
              rintro e w7 ⟨rfl, hD7, hk7⟩
              have HM7 := Lib.hid (HM6.out.wrote hD7 hk7)
              have HW7 := Lib.hid (HW.out.grew (grew_of hk7))
              have HB7 := Lib.hid (HB.out.grew (grew_of hk7))
              have HOP := Lib.hid (open_st HEW.out.s HM7.out HNR.out HON.out HST.out (HOK6.out.crash ks (by omega)) rfl rfl (by omega) (by omega))
              have HCL := Lib.hid ((cleaned_left (D6.crash ks) S).1.trans (show (D6.crash ks).left = -1 from rfl))
              generalize (D6.crash ks).cleaned S = d8 at *
              clear hD7 hk7 HCR HM6 HW HB HNR HON HOK6
              go_wp2_with fail
              refine HOP.out.mono ?_
              rintro e w8 ⟨g8, R8, rfl, hS8, hG8, hg8⟩
              have HS8 := Lib.hid hS8
              have HW8 := Lib.hid ((HW7.out.to (g' := g8) (fun h0 x hx => Nat.lt_of_lt_of_le (HW7.out.lt h0 x hx) hg8)).grew hG8)
              have HB8 := Lib.hid ((HB7.out.to (g' := g8) (fun h0 x hx => Nat.lt_of_lt_of_le (HB7.out.lt h0 x hx) hg8)).grew hG8)
              have HI8 := Lib.hid (image_walk hS8.mine.is hS8.ok)
              clear hS8 hG8 hg8 HOP HM7 HW7 HB7
              go_wp2_with fail
              refine HI8.out.mono ?_
              rintro e w9 ⟨ai, ci, rfl, hoi, hk9, hfi⟩
              have hib := HS8.out.ok.image_bytes
              obtain ⟨I, hI⟩ : ∃ I, I = d8.image := ⟨_, rfl⟩
              have HI := Lib.hid hI
              rw [← hI] at hoi hib ⊢
              have HIA : Hid (Aside w9 R8 g8 ai I.length I) := Lib.hid ⟨hoi.row (areB_wf hib), fun _ x hx => ⟨HS8.out.mine.later (hfi x hx), by have := HS8.out.sl.lt; have := hfi x hx; omega⟩⟩
              have HIB := Lib.hid hib
              have HS9 := Lib.hid (HS8.out.nil hk9)
              have HW9 := Lib.hid (HW8.out.nil hk9)
              have HB9 := Lib.hid (HB8.out.nil hk9)
              have HLD := Lib.hid (load_st HEW.out.e2 HS9.out)
              obtain ⟨L, hL⟩ : ∃ L, L = I.length := ⟨_, rfl⟩
              rw [← hL] at HIA ⊢
              clear hI hib hoi hk9 hfi HI8 HS8 HW8 HB8 hL
              go_wp2_with fail
              refine HLD.out.mono ?_
              rintro e w10 ⟨al, cl, rfl, hol, hk10, hfl10⟩
              obtain ⟨nc, hnc⟩ : ∃ x, x = C.length := ⟨_, rfl⟩
              rw [← hnc] at hol ⊢
              have HCA : Hid (Aside w10 R8 g8 al nc C) := Lib.hid ⟨hol.row (areB_wf HST.out.bytes), fun _ x hx => ⟨HS9.out.mine.later (hfl10 x hx), by have := HS9.out.sl.lt; have := hfl10 x hx; omega⟩⟩
              have HS10 := Lib.hid (HS9.out.nil hk10)
              have HI10 := Lib.hid (HIA.out.nil hk10)
              have HSW := Lib.hid (sameBytes_walk (ca := cl) (cb := cb) HCA.out.row (HW9.out.nil hk10).row)
              have HSB := Lib.hid (fun w' (hk : Keeps Nil w10 w') => sameBytes_walk (ca := cl) (cb := cb) (HCA.out.row.keep hk) ((HB9.out.nil hk10).nil hk).row)
              clear hnc hol hk10 hfl10 HLD HS9 HW9 HB9 HIA
              go_wp2_with fail
              refine HSW.out.mono ?_
              rintro e w11 ⟨rfl, hd11⟩
              have hk11 : Keeps Nil w10 w11 := hd11.keeps _
              have HK11 := Lib.hid hk11
              clear hd11 hk11 HSW
              cases hsw : sameL C b with
              | true =>
                have HS12 := Lib.hid (HS10.out.nil HK11.out)
                have HI12 := Lib.hid (HI10.out.nil HK11.out)
                have HC12 := Lib.hid (HCA.out.nil HK11.out)
                clear HK11 HSB HS10 HI10 HCA hsw
                generalize w11 = w12 at *
                have HOP := Lib.hid (open_st HEW.out.s HS12.out.mine HS12.out.clean.near HS12.out.clean.ones HS12.out.st HS12.out.ok HS12.out.off HCL.out (by omega) (by omega))
                go_wp2_with fail
                refine HOP.out.mono ?_
                rintro e w13 ⟨g9, R9, rfl, hS13, hG13, hg13⟩
                have HS13 := Lib.hid hS13
                have HL13 := Lib.hid ((cleaned_left d8 S).1.trans HCL.out)
                have HIM := Lib.hid (hS13.clean.image HS12.out.clean)
                generalize d8.cleaned S = d9 at *
                have HC13 := Lib.hid ((HC12.out.to (g' := g9) (fun h0 x hx => Nat.lt_of_lt_of_le (HC12.out.lt h0 x hx) hg13)).grew hG13)
                have HI13 := Lib.hid (HI12.out.grew hG13)
                have HQ9 := Lib.hid (seq_walk hS13.sl)
                have HQ8 := Lib.hid (seq_walk (HS12.out.sl.keep hG13.keeps (wr_not HS12.out.rg)))
                have hi13 := image_walk hS13.mine.is hS13.ok
                rw [HIM.out, ← HI.out] at hi13
                have HI14 := Lib.hid hi13
                clear hS13 hG13 hg13 hi13 HOP HS12 HC12 HI12
                go_wp2_with fail
                refine HQ9.out.mono ?_
                rintro e w14 ⟨rfl, rfl⟩
                go_wp2_with fail
                refine HQ8.out.mono ?_
                rintro e w14 ⟨rfl, rfl⟩
                go_wp2_with fail
                refine HI14.out.mono ?_
                rintro e w14 ⟨aj, cj, rfl, hoj, hk14, _⟩
                have HS14 := Lib.hid (HS13.out.nil hk14)
                have HC14 := Lib.hid (HC13.out.nil hk14)
                have hsb := sameBytes_walk (ca := ci) (cb := cj) (HI13.out.nil hk14).row (hoj.row (areB_wf HIB.out))
                rw [sameL_eq.2 rfl] at hsb
                have HSB := Lib.hid hsb
                clear hoj hk14 hsb HS13 HC13 HI13 HQ9 HQ8 HI14
                go_wp2_with fail
                refine HSB.out.mono ?_
                rintro e w15 ⟨rfl, hd15⟩
                have hk15 : Keeps Nil w14 w15 := hd15.keeps _
                have HS15 := Lib.hid (HS14.out.nil hk15)
                have HC15 := Lib.hid (HC14.out.nil hk15)
                clear hd15 hk15 HSB HS14 HC14
                go_wp2_with fail
                go_roundw
                case rel => exact ⟨i + 1, g9, R9, d9, S, C, al, nc, cl, by go_num, rfl, rfl, by omega, HS15, HL13, HSQ, HC15⟩
                case measure => first | (simp [intOf]; done) | (simp [intOf]; omega)
              | false =>
                have hsb : sameL C b = true := by
                  rcases HEQ.out with h | h
                  · rw [h] at hsw; cases hsw
                  · exact h
                have HSBW := Lib.hid (HSB.out w11 HK11.out)
                rw [hsb] at HSBW
                clear hsb hsw HSB
                go_wp2_with fail
                refine HSBW.out.mono ?_
                rintro e w12 ⟨rfl, hd12⟩
                have hk12 : Keeps Nil w11 w12 := hd12.keeps _
                have HS12 := Lib.hid ((HS10.out.nil HK11.out).nil hk12)
                have HI12 := Lib.hid ((HI10.out.nil HK11.out).nil hk12)
                have HC12 := Lib.hid ((HCA.out.nil HK11.out).nil hk12)
                clear HK11 HSBW HS10 HI10 HCA hd12 hk12
                have HOP := Lib.hid (open_st HEW.out.s HS12.out.mine HS12.out.clean.near HS12.out.clean.ones HS12.out.st HS12.out.ok HS12.out.off HCL.out (by omega) (by omega))
                go_wp2_with fail
                refine HOP.out.mono ?_
                rintro e w13 ⟨g9, R9, rfl, hS13, hG13, hg13⟩
                have HS13 := Lib.hid hS13
                have HL13 := Lib.hid ((cleaned_left d8 S).1.trans HCL.out)
                have HIM := Lib.hid (hS13.clean.image HS12.out.clean)
                generalize d8.cleaned S = d9 at *
                have HC13 := Lib.hid ((HC12.out.to (g' := g9) (fun h0 x hx => Nat.lt_of_lt_of_le (HC12.out.lt h0 x hx) hg13)).grew hG13)
                have HI13 := Lib.hid (HI12.out.grew hG13)
                have HQ9 := Lib.hid (seq_walk hS13.sl)
                have HQ8 := Lib.hid (seq_walk (HS12.out.sl.keep hG13.keeps (wr_not HS12.out.rg)))
                have hi13 := image_walk hS13.mine.is hS13.ok
                rw [HIM.out, ← HI.out] at hi13
                have HI14 := Lib.hid hi13
                clear hS13 hG13 hg13 hi13 HOP HS12 HC12 HI12
                go_wp2_with fail
                refine HQ9.out.mono ?_
                rintro e w14 ⟨rfl, rfl⟩
                go_wp2_with fail
                refine HQ8.out.mono ?_
                rintro e w14 ⟨rfl, rfl⟩
                go_wp2_with fail
                refine HI14.out.mono ?_
                rintro e w14 ⟨aj, cj, rfl, hoj, hk14, _⟩
                have HS14 := Lib.hid (HS13.out.nil hk14)
                have HC14 := Lib.hid (HC13.out.nil hk14)
                have hsb := sameBytes_walk (ca := ci) (cb := cj) (HI13.out.nil hk14).row (hoj.row (areB_wf HIB.out))
                rw [sameL_eq.2 rfl] at hsb
                have HSB := Lib.hid hsb
                clear hoj hk14 hsb HS13 HC13 HI13 HQ9 HQ8 HI14
                go_wp2_with fail
                refine HSB.out.mono ?_
                rintro e w15 ⟨rfl, hd15⟩
                have hk15 : Keeps Nil w14 w15 := hd15.keeps _
                have HS15 := Lib.hid (HS14.out.nil hk15)
                have HC15 := Lib.hid (HC14.out.nil hk15)
                clear hd15 hk15 HSB HS14 HC14
                go_wp2_with fail
                go_roundw
                case rel => exact ⟨i + 1, g9, R9, d9, S, C, al, nc, cl, by go_num, rfl, rfl, by omega, HS15, HL13, HSQ, HC15⟩
                case measure => first | (simp [intOf]; done) | (simp [intOf]; omega)
            · subst herr
              have HEQ : Hid (sameL C c = true ∨ sameL C b = true) := Lib.hid (by
                rw [hC]
                cases ch with
                | true => exact .inr (sameL_eq.2 rfl)
                | false => exact .inl (sameL_eq.2 rfl))
              have HW := HA
              have HIS := Lib.hid (is_zero (HEW.out.keep HM6.out.keeps))
              obtain ⟨te, xe, hev⟩ := errV_ne p 0
              rw [hev] at HIS
              rw [hev]
              clear HA hdone hC HBL hev
              go_wp2_with fail
              refine HIS.out.mono ?_
              rintro e w6b ⟨rfl, hk6b⟩
              have HM6b := Lib.hid (HM6.out.nil hk6b)
              have HWb := Lib.hid (HW.out.nil hk6b)
              have HBb := Lib.hid (HB.out.nil hk6b)
              clear hk6b HIS HM6 HW HB
              have HM6 := HM6b
              have HW := HWb
              have HB := HBb
              clear HM6b HWb HBb
              have HCR := Lib.hid (crash_walk HM6.out.is HOK6.out (by omega) (HS2.out.keep HM6.out.keeps) HC2.out.1 HC2.out.2 (fun h0 => old_zero HM6.out HS2.out h0))
              go_wp2_with fail
              refine HCR.out.mono ?_
              rintro e w7 ⟨rfl, hD7, hk7⟩
              have HM7 := Lib.hid (HM6.out.wrote hD7 hk7)
              have HW7 := Lib.hid (HW.out.grew (grew_of hk7))
              have HB7 := Lib.hid (HB.out.grew (grew_of hk7))
              have HOP := Lib.hid (open_st HEW.out.s HM7.out HNR.out HON.out HST.out (HOK6.out.crash ks (by omega)) rfl rfl (by omega) (by omega))
              have HCL := Lib.hid ((cleaned_left (D6.crash ks) S).1.trans (show (D6.crash ks).left = -1 from rfl))
              generalize (D6.crash ks).cleaned S = d8 at *
              clear hD7 hk7 HCR HM6 HW HB HNR HON HOK6
              go_wp2_with fail
              refine HOP.out.mono ?_
              rintro e w8 ⟨g8, R8, rfl, hS8, hG8, hg8⟩
              have HS8 := Lib.hid hS8
              have HW8 := Lib.hid ((HW7.out.to (g' := g8) (fun h0 x hx => Nat.lt_of_lt_of_le (HW7.out.lt h0 x hx) hg8)).grew hG8)
              have HB8 := Lib.hid ((HB7.out.to (g' := g8) (fun h0 x hx => Nat.lt_of_lt_of_le (HB7.out.lt h0 x hx) hg8)).grew hG8)
              have HI8 := Lib.hid (image_walk hS8.mine.is hS8.ok)
              clear hS8 hG8 hg8 HOP HM7 HW7 HB7
              go_wp2_with fail
              refine HI8.out.mono ?_
              rintro e w9 ⟨ai, ci, rfl, hoi, hk9, hfi⟩
              have hib := HS8.out.ok.image_bytes
              obtain ⟨I, hI⟩ : ∃ I, I = d8.image := ⟨_, rfl⟩
              have HI := Lib.hid hI
              rw [← hI] at hoi hib ⊢
              have HIA : Hid (Aside w9 R8 g8 ai I.length I) := Lib.hid ⟨hoi.row (areB_wf hib), fun _ x hx => ⟨HS8.out.mine.later (hfi x hx), by have := HS8.out.sl.lt; have := hfi x hx; omega⟩⟩
              have HIB := Lib.hid hib
              have HS9 := Lib.hid (HS8.out.nil hk9)
              have HW9 := Lib.hid (HW8.out.nil hk9)
              have HB9 := Lib.hid (HB8.out.nil hk9)
              have HLD := Lib.hid (load_st HEW.out.e2 HS9.out)
              obtain ⟨L, hL⟩ : ∃ L, L = I.length := ⟨_, rfl⟩
              rw [← hL] at HIA ⊢
              clear hI hib hoi hk9 hfi HI8 HS8 HW8 HB8 hL
              go_wp2_with fail
              refine HLD.out.mono ?_
              rintro e w10 ⟨al, cl, rfl, hol, hk10, hfl10⟩
              obtain ⟨nc, hnc⟩ : ∃ x, x = C.length := ⟨_, rfl⟩
              rw [← hnc] at hol ⊢
              have HCA : Hid (Aside w10 R8 g8 al nc C) := Lib.hid ⟨hol.row (areB_wf HST.out.bytes), fun _ x hx => ⟨HS9.out.mine.later (hfl10 x hx), by have := HS9.out.sl.lt; have := hfl10 x hx; omega⟩⟩
              have HS10 := Lib.hid (HS9.out.nil hk10)
              have HI10 := Lib.hid (HIA.out.nil hk10)
              have HSW := Lib.hid (sameBytes_walk (ca := cl) (cb := cw) HCA.out.row (HW9.out.nil hk10).row)
              have HSB := Lib.hid (fun w' (hk : Keeps Nil w10 w') => sameBytes_walk (ca := cl) (cb := cb) (HCA.out.row.keep hk) ((HB9.out.nil hk10).nil hk).row)
              clear hnc hol hk10 hfl10 HLD HS9 HW9 HB9 HIA
              go_wp2_with fail
              refine HSW.out.mono ?_
              rintro e w11 ⟨rfl, hd11⟩
              have hk11 : Keeps Nil w10 w11 := hd11.keeps _
              have HK11 := Lib.hid hk11
              clear hd11 hk11 HSW
              cases hsw : sameL C c with
              | true =>
                have HS12 := Lib.hid (HS10.out.nil HK11.out)
                have HI12 := Lib.hid (HI10.out.nil HK11.out)
                have HC12 := Lib.hid (HCA.out.nil HK11.out)
                clear HK11 HSB HS10 HI10 HCA hsw
                generalize w11 = w12 at *
                have HOP := Lib.hid (open_st HEW.out.s HS12.out.mine HS12.out.clean.near HS12.out.clean.ones HS12.out.st HS12.out.ok HS12.out.off HCL.out (by omega) (by omega))
                go_wp2_with fail
                refine HOP.out.mono ?_
                rintro e w13 ⟨g9, R9, rfl, hS13, hG13, hg13⟩
                have HS13 := Lib.hid hS13
                have HL13 := Lib.hid ((cleaned_left d8 S).1.trans HCL.out)
                have HIM := Lib.hid (hS13.clean.image HS12.out.clean)
                generalize d8.cleaned S = d9 at *
                have HC13 := Lib.hid ((HC12.out.to (g' := g9) (fun h0 x hx => Nat.lt_of_lt_of_le (HC12.out.lt h0 x hx) hg13)).grew hG13)
                have HI13 := Lib.hid (HI12.out.grew hG13)
                have HQ9 := Lib.hid (seq_walk hS13.sl)
                have HQ8 := Lib.hid (seq_walk (HS12.out.sl.keep hG13.keeps (wr_not HS12.out.rg)))
                have hi13 := image_walk hS13.mine.is hS13.ok
                rw [HIM.out, ← HI.out] at hi13
                have HI14 := Lib.hid hi13
                clear hS13 hG13 hg13 hi13 HOP HS12 HC12 HI12
                go_wp2_with fail
                refine HQ9.out.mono ?_
                rintro e w14 ⟨rfl, rfl⟩
                go_wp2_with fail
                refine HQ8.out.mono ?_
                rintro e w14 ⟨rfl, rfl⟩
                go_wp2_with fail
                refine HI14.out.mono ?_
                rintro e w14 ⟨aj, cj, rfl, hoj, hk14, _⟩
                have HS14 := Lib.hid (HS13.out.nil hk14)
                have HC14 := Lib.hid (HC13.out.nil hk14)
                have hsb := sameBytes_walk (ca := ci) (cb := cj) (HI13.out.nil hk14).row (hoj.row (areB_wf HIB.out))
                rw [sameL_eq.2 rfl] at hsb
                have HSB := Lib.hid hsb
                clear hoj hk14 hsb HS13 HC13 HI13 HQ9 HQ8 HI14
                go_wp2_with fail
                refine HSB.out.mono ?_
                rintro e w15 ⟨rfl, hd15⟩
                have hk15 : Keeps Nil w14 w15 := hd15.keeps _
                have HS15 := Lib.hid (HS14.out.nil hk15)
                have HC15 := Lib.hid (HC14.out.nil hk15)
                clear hd15 hk15 HSB HS14 HC14
                go_wp2_with fail
                go_roundw
                case rel => exact ⟨i + 1, g9, R9, d9, S, C, al, nc, cl, by go_num, rfl, rfl, by omega, HS15, HL13, HSQ, HC15⟩
                case measure => first | (simp [intOf]; done) | (simp [intOf]; omega)
              | false =>
                have hsb : sameL C b = true := by
                  rcases HEQ.out with h | h
                  · rw [h] at hsw; cases hsw
                  · exact h
                have HSBW := Lib.hid (HSB.out w11 HK11.out)
                rw [hsb] at HSBW
                clear hsb hsw HSB
                go_wp2_with fail
                refine HSBW.out.mono ?_
                rintro e w12 ⟨rfl, hd12⟩
                have hk12 : Keeps Nil w11 w12 := hd12.keeps _
                have HS12 := Lib.hid ((HS10.out.nil HK11.out).nil hk12)
                have HI12 := Lib.hid ((HI10.out.nil HK11.out).nil hk12)
                have HC12 := Lib.hid ((HCA.out.nil HK11.out).nil hk12)
                clear HK11 HSBW HS10 HI10 HCA hd12 hk12
                have HOP := Lib.hid (open_st HEW.out.s HS12.out.mine HS12.out.clean.near HS12.out.clean.ones HS12.out.st HS12.out.ok HS12.out.off HCL.out (by omega) (by omega))
                go_wp2_with fail
                refine HOP.out.mono ?_
                rintro e w13 ⟨g9, R9, rfl, hS13, hG13, hg13⟩
                have HS13 := Lib.hid hS13
                have HL13 := Lib.hid ((cleaned_left d8 S).1.trans HCL.out)
                have HIM := Lib.hid (hS13.clean.image HS12.out.clean)
                generalize d8.cleaned S = d9 at *
                have HC13 := Lib.hid ((HC12.out.to (g' := g9) (fun h0 x hx => Nat.lt_of_lt_of_le (HC12.out.lt h0 x hx) hg13)).grew hG13)
                have HI13 := Lib.hid (HI12.out.grew hG13)
                have HQ9 := Lib.hid (seq_walk hS13.sl)
                have HQ8 := Lib.hid (seq_walk (HS12.out.sl.keep hG13.keeps (wr_not HS12.out.rg)))
                have hi13 := image_walk hS13.mine.is hS13.ok
                rw [HIM.out, ← HI.out] at hi13
                have HI14 := Lib.hid hi13
                clear hS13 hG13 hg13 hi13 HOP HS12 HC12 HI12
                go_wp2_with fail
                refine HQ9.out.mono ?_
                rintro e w14 ⟨rfl, rfl⟩
                go_wp2_with fail
                refine HQ8.out.mono ?_
                rintro e w14 ⟨rfl, rfl⟩
                go_wp2_with fail
                refine HI14.out.mono ?_
                rintro e w14 ⟨aj, cj, rfl, hoj, hk14, _⟩
                have HS14 := Lib.hid (HS13.out.nil hk14)
                have HC14 := Lib.hid (HC13.out.nil hk14)
                have hsb := sameBytes_walk (ca := ci) (cb := cj) (HI13.out.nil hk14).row (hoj.row (areB_wf HIB.out))
                rw [sameL_eq.2 rfl] at hsb
                have HSB := Lib.hid hsb
                clear hoj hk14 hsb HS13 HC13 HI13 HQ9 HQ8 HI14
                go_wp2_with fail
                refine HSB.out.mono ?_
                rintro e w15 ⟨rfl, hd15⟩
                have hk15 : Keeps Nil w14 w15 := hd15.keeps _
                have HS15 := Lib.hid (HS14.out.nil hk15)
                have HC15 := Lib.hid (HC14.out.nil hk15)
                clear hd15 hk15 HSB HS14 HC14
                go_wp2_with fail
                go_roundw
                case rel => exact ⟨i + 1, g9, R9, d9, S, C, al, nc, cl, by go_num, rfl, rfl, by omega, HS15, HL13, HSQ, HC15⟩
                case measure => first | (simp [intOf]; done) | (simp [intOf]; omega)
          · obtain rfl : i = len0 := by omega
            have hii : ¬ (i : Int) < i := by omega
            go_wp2_with fail
            go_ret
            exact ⟨rfl, HK1.out.trans hSt.out.mine.keeps⟩
end Go.Proofs.YtkefbgkdkmkghaaDoor
