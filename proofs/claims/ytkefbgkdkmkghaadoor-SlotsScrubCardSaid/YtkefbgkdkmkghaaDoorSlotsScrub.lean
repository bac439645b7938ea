/-
  SlotsScrub: what stands in sectors that are not in use is gone.
-/
import Derived.Test.YtkefbgkdkmkghaaDoorSlotsSt
namespace Go.Proofs.YtkefbgkdkmkghaaDoor
set_option linter.unusedSimpArgs false
set_option linter.unusedVariables false
open Go.RowKit

theorem near_put {n : Nat} {s : Sv} {c : List Int} {d : Dk} (h : Near n s c d) {i : Nat} (hi : i < n) (hu : ¬ inUse n s i) (b : List Int) : Near n s c (d.put i b) := by
  have hl : (d.put i b).vs.length = n := by show (d.vs.set _ _).length = n; rw [List.length_set]; exact h.len
  refine ⟨hl, fun j hj hj2 => ?_, fun j hj => ?_⟩
  · rw [put_at (by rw [h.len]; exact hi), if_neg (fun e : i = j => hu (by rw [e]; exact hj2))]
    exact h.use j hj hj2
  · rw [put_at (by rw [h.len]; exact hi)]
    split
    · simp
    · exact h.some j hj
theorem near_settle {n : Nat} {s : Sv} {c : List Int} {d : Dk} (h : Near n s c d) : Near n s c d.settle ∧ Singles d.settle := by
  have hl : d.settle.vs.length = n := by show (d.vs.map _).length = n; rw [List.length_map]; exact h.len
  refine ⟨⟨hl, fun j hj hj2 => ?_, fun j hj => ?_⟩, fun j hj => ?_⟩
  · rw [settle_at (by rw [h.len]; exact hj), h.use j hj hj2]; rfl
  · rw [settle_at (by rw [h.len]; exact hj)]; simp
  · exact ⟨_, settle_at (by rw [h.len, ← hl]; exact hj)⟩
/-- The state, with other things in sectors that are not in use. -/
structure Mess (n : Nat) (s : Sv) (c : List Int) (m : Nat) (d : Dk) : Prop where
  near : Near n s c d
  off : d.off = false
  left : d.left = -1
  ok : d.Ok m
theorem Mess.write {n : Nat} {s : Sv} {c : List Int} {m : Nat} {d : Dk} (h : Mess n s c m d) {i : Nat} (hi : i < n) (hu : ¬ inUse n s i) {b : List Int} (hb : AreB b) (hl : b.length = 128) : (d.write i b).2 = none ∧ Mess n s c (m + 1) (d.write i b).1 := by
  have hw := h.ok.write i hb
  have e := write_free h.off h.left (i := i) (by rw [h.near.len]; exact hi) hl
  rw [e] at hw ⊢
  exact ⟨rfl, near_put h.near hi hu b, h.off, h.left, hw⟩
theorem Mess.sync {n : Nat} {s : Sv} {c : List Int} {m : Nat} {d : Dk} (h : Mess n s c m d) (hm : 1 ≤ m) : d.sync.2 = none ∧ Mess n s c m d.sync.1 ∧ Singles d.sync.1 := by
  have hw := h.ok.sync hm
  have e := sync_free h.off h.left
  rw [e] at hw ⊢
  exact ⟨rfl, ⟨(near_settle h.near).1, h.off, h.left, hw⟩, (near_settle h.near).2⟩
set_option maxRecDepth 100000 in
set_option maxHeartbeats 3200000 in
theorem slotsScrub_walk (a : Int) (a1 : Option Addr) (len1 cap1 : Nat) (z1 : List Int) (w : World) {p : Nat → Addr} (wf0 : (Lit.int .i64 a).wf = true) (w1 : IsRow .i64 w a1 len1 cap1 z1) (hE : ErrS w p) :
    Calls Tryd.prog 9 #[.int .i64 a, .slice a1 len1 cap1] w fun e w' => e = .returned (.bool true) ∧ Keeps Nil w w' := by
  have HE := Lib.hid hE
  have HFI := Lib.hid (slotsfirst_walk hE)
  have ha := i64_wf wf0
  have hr1 := Row.of_isRow w1
  generalize z1.take len1 = ls at *
  have HLS := Lib.hid hr1
  have HWF := Lib.hid hr1.wf
  have HLL := Lib.hid hr1.llen
  obtain ⟨q, hq⟩ : ∃ q : Nat, a % 900 = (q : Int) := ⟨(a % 900).toNat, by omega⟩
  have hq1 : q ≤ 899 := by omega
  have HQ := Lib.hid hq
  have HNA := Lib.hid (fun w => number_walk a 900 w ha.1 ha.2 (by omega) (by omega))
  have hnw := fun w => new_walk w 17
  rw [show newN 17 = 17 by decide] at hnw
  have HNW := Lib.hid hnw
  have HNO : Hid (errO p none = .nilIface) := Lib.hid rfl
  clear hE ha hq hnw wf0 w1 hr1
  go_enter Tryd.func9, Tryd.ntmps9
  go_wp2_with fail
  refine HFI.out.mono ?_
  rintro e w1 ⟨rfl, hk1⟩
  have HK1 := Lib.hid hk1
  clear HFI hk1
  by_cases hbig : 20 < len1
  · have hbi : (20 : Int) < len1 := by omega
    go_wp2_with fail
    go_ret
    exact ⟨rfl, HK1.out⟩
  · have hbi : ¬ (20 : Int) < len1 := by omega
    have hlen20 : len1 ≤ 20 := by omega
    go_wp2_with fail
    refine (HNA.out w1).mono ?_
    rintro e w2 ⟨rfl, rfl⟩
    rw [HQ.out]
    go_wp2_with fail
    refine (HNW.out w1).mono ?_
    rintro e w2 hN
    obtain ⟨pp, R, rfl, hMi⟩ := hN.mine
    have HEW := Lib.hid (HE.out.keep HK1.out)
    have HLS1 := Lib.hid (HLS.out.keep HK1.out)
    have HO := Lib.hid (open_new HEW.out hMi (by omega) (by omega))
    have HFR := Lib.hid (show ∀ w', Keeps Nil w1 w' → Row .i64 w' a1 len1 ls from fun w' hk => HLS1.out.keep hk)
    clear hN hMi HNA HNW HLS
    go_wp2_with fail
    refine HO.out.mono ?_
    rintro e w3 ⟨g, R3, rfl, hS3, _, _⟩
    have HS3 := Lib.hid hS3
    have HL3 : Hid (((Dk.new 17).cleaned ⟨0, 0, 0⟩).left = -1) := Lib.hid (cleaned_left _ _).1
    generalize (Dk.new 17).cleaned ⟨0, 0, 0⟩ = d3 at *
    clear hS3 HO
    have hfl := file_walk 3 q w3 (by omega)
    obtain ⟨A, hA⟩ : ∃ A, A = fileL 3 q := ⟨_, rfl⟩
    have hAl : A.length = q := by rw [hA]; exact fileL_len _ _
    have hAb : AreB A := by rw [hA]; exact fileL_bytes _ _
    have HAL := Lib.hid hAl
    have HAB := Lib.hid hAb
    rw [← hA] at hfl
    have HFL := Lib.hid hfl
    clear hA hAl hAb hfl
    go_wp2_with fail
    refine HFL.out.mono ?_
    rintro e w4 ⟨aa, ca, rfl, hoa, hk4, hfa⟩
    rw [HAL.out] at hoa ⊢
    have HS4 := Lib.hid (HS3.out.nil hk4)
    have HRA := Lib.hid (hoa.row (areB_wf HAB.out))
    have HFA := Lib.hid (show ∀ x, blkOf aa x → R3 x = 0 ∧ x ≠ g from fun x hx => ⟨HS3.out.mine.later (hfa x hx), by have := HS3.out.sl.lt; have := hfa x hx; omega⟩)
    have hca := hoa.2.1
    have hcx := hoa.2.2.1
    unfold maxLen at hcx
    have HSV := Lib.hid (save_free HEW.out HS4.out HL3.out HRA.out hca (by omega) (fun _ x hx => (HFA.out x hx).1) (by omega) (by simp))
    clear hoa hk4 hfa hca hcx HS3 HFL
    go_wp2_with fail
    refine HSV.out.mono ?_
    rintro e w5 ⟨R5, D5, rfl, hS5, hl5, hk5, hR5⟩
    have HRA5 := Lib.hid (HRA.out.keepN hk5 (fun _ x hx hh => hh.elim (wr_not (HFA.out x hx).1) (HFA.out x hx).2))
    have HFA5 := Lib.hid (show ∀ x, 0 < q → blkOf aa x → R5 x = 0 ∧ x ≠ g from fun x h0 hx => ⟨by
      have hlt : x < w4.heap.size := by
        obtain ⟨b, off, e1, hb, _⟩ := HRA.out.cell h0
        subst e1
        rw [(blkOf_some _ _ _ _).1 hx]; exact hb
      rw [hR5 x hlt]; exact (HFA.out x hx).1, (HFA.out x hx).2⟩)
    have HS5 := Lib.hid hS5
    have HL5 := Lib.hid hl5
    have HI5 := Lib.hid (image_walk hS5.mine.is hS5.ok)
    clear hS5 hk5 hR5 HSV HS4 HRA HFA hl5
    go_wp2_with fail
    refine HI5.out.mono ?_
    rintro e w6 ⟨ai, ci, rfl, hoi, hk6, hfi⟩
    have hib := HS5.out.ok.image_bytes
    obtain ⟨I, hI⟩ : ∃ I, I = D5.image := ⟨_, rfl⟩
    have HI := Lib.hid hI
    rw [← hI] at hoi hib ⊢
    have hri := hoi.row (areB_wf hib)
    have hno : ∀ x, blkOf ai x → R5 x = 0 ∧ x ≠ g := fun x hx => ⟨HS5.out.mine.later (hfi x hx), by have := HS5.out.sl.lt; have := hfi x hx; omega⟩
    obtain ⟨L, hL⟩ : ∃ L, L = I.length := ⟨_, rfl⟩
    rw [← hL] at hri ⊢
    have HRI := Lib.hid hri
    have HNI := Lib.hid hno
    have HS6 := Lib.hid (HS5.out.nil hk6)
    have HRA6 := Lib.hid (HRA5.out.keep hk6)
    have HIB := Lib.hid hib
    obtain ⟨nx, hnx⟩ : ∃ x, x = nextSv ⟨0, 0, 0⟩ A.length := ⟨_, rfl⟩
    have hnx1 : nx.half = 0 ∧ nx.many = q ∧ nx.seq = 1 := by rw [hnx, HAL.out]; exact ⟨rfl, rfl, rfl⟩
    rw [← hnx] at HS6
    have HNX := Lib.hid hnx1
    obtain ⟨U, hU⟩ : ∃ U, U = 1 + (q + 127) / 128 := ⟨_, rfl⟩
    have hU1 : 1 ≤ U ∧ U ≤ 9 := by omega
    have HUN := Lib.hid (show ∀ i, U ≤ i → ¬ inUse 17 nx i from fun i hi hu => by
      unfold inUse firstN takesN at hu
      rw [hnx1.1, hnx1.2.1] at hu
      omega)
    have hUi : 1 + ((q : Int) + 127) / 128 = (U : Int) := by omega
    clear hI hib hri hno hL hoi hk6 hfi HI5 HRA5 HS5 hnx hnx1 hU
    go_wp2_with fail
    go_loopw [12, 13] (fun x _ wr => ∃ (i : Nat) (R' : Roles) (d : Dk), x = .int .i64 i ∧ i ≤ len1 ∧ Hid (Mine w1 wr pp R' d) ∧ Hid (Mess 17 nx A (1 + i) d) ∧ Hid (Grew w6 wr R5 R')) (fun x _ _ => len1 - (intOf x).toNat)
    case atStart =>
      exact ⟨0, R5, D5, rfl, Nat.zero_le _, Lib.hid HS6.out.mine, Lib.hid ⟨HS6.out.clean.near, HS6.out.off, HL5.out, HS6.out.ok⟩, Lib.hid (Grew.refl _ _)⟩
    case round =>
      obtain ⟨i, R', d, rfl, hi, hMi, hMe, hGi⟩ := hrel
      by_cases hil : i < len1
      · have hii : (i : Int) < len1 := by omega
        obtain ⟨bb, off, e1, hbb, hc⟩ := (HLS1.out.keep hMi.out.keeps).cell (by omega)
        subst e1
        have hcell := hc i hil
        have hx0 := i64_wf (HWF.out (ls.getD i 0) (by have := HLL.out; simp [List.getD, show i < ls.length by omega]))
        generalize ls.getD i 0 = X at *
        obtain ⟨k, hk⟩ : ∃ k : Nat, X % (17 - (U : Int)) = (k : Int) := ⟨(X % (17 - (U : Int))).toNat, by have := Int.emod_nonneg X (show (17 : Int) - U ≠ 0 by omega); omega⟩
        have hk17 : U + k < 17 := by have := Int.emod_lt_of_pos X (show (0 : Int) < 17 - U by omega); omega
        have hnm := fun w' => number_walk X (17 - (U : Int)) w' hx0.1 hx0.2 (by omega) (by omega)
        rw [hk] at hnm
        have HNM := Lib.hid hnm
        obtain ⟨V, hV⟩ : ∃ V, V = U + k := ⟨_, rfl⟩
        have hVb : V ≤ 16 := by omega
        have hVi : (U : Int) + (k : Int) = (V : Int) := by omega
        have hUs : IntKind.i64.wrap (17 - (U : Int)) = 17 - (U : Int) := by rw [IntKind.wrap_i64]; omega
        have HNU := Lib.hid (HUN.out V (by omega))
        have hfl := file_walk X 128 wr (by omega)
        have hBl := fileL_len X 128
        have hBb := fileL_bytes X 128
        generalize fileL X 128 = B at *
        have HBL := Lib.hid hBl
        have HBB := Lib.hid hBb
        have HFL := Lib.hid hfl
        clear hx0 hnm hk hV hBl hBb hfl hc
        go_wp2_with fail
        refine (HNM.out wr).mono ?_
        rintro e w7 ⟨rfl, rfl⟩
        go_wp2_with fail
        refine HFL.out.mono ?_
        rintro e w7 ⟨ab, cb, rfl, hob, hk7, _⟩
        rw [HBL.out] at hob ⊢
        have hmw := mine_write HEW.out.e2 (hMi.out.nil hk7) hMe.out.ok (by omega) (V : Int) (cb := cb) (hob.row (areB_wf HBB.out))
        have hme := hMe.out.write (i := V) (by omega) HNU.out HBB.out HBL.out
        rw [hme.1, HNO.out] at hmw
        have HMW := Lib.hid hmw
        have HME := Lib.hid hme.2
        have HG7 := Lib.hid (hGi.out.trans (Grew.of_nil R' hk7))
        clear hmw hme hob hk7 hcell HFL HNM
        go_wp2_with fail
        refine HMW.out.mono ?_
        rintro e w8 ⟨R8, rfl, hM8, hG8⟩
        have HM8 := Lib.hid hM8
        have HG8 := Lib.hid (HG7.out.trans hG8)
        clear hM8 hG8 HMW
        go_wp2_with fail
        go_roundw
        case rel => exact ⟨i + 1, R8, _, by go_num, by omega, HM8, (show 1 + i + 1 = 1 + (i + 1) by omega) ▸ HME, HG8⟩
        case measure => first | (simp [intOf]; done) | (simp [intOf]; omega)
      · obtain rfl : i = len1 := by omega
        have hii : ¬ (i : Int) < i := by omega
        have hms := mine_sync HEW.out.e2 hMi.out hMe.out.ok (by omega)
        have hsy := hMe.out.sync (by omega)
        rw [hsy.1, HNO.out] at hms
        have HMS := Lib.hid hms
        have HSY := Lib.hid hsy.2
        clear hms hsy
        go_wp2_with fail
        refine HMS.out.mono ?_
        rintro e w7 ⟨rfl, hM7, hk7⟩
        have HG7 := Lib.hid (hGi.out.trans (grew_of hk7))
        have HOP := Lib.hid (open_st HEW.out hM7 HSY.out.1.near HSY.out.2 HS6.out.st HSY.out.1.ok HSY.out.1.off HSY.out.1.left (by omega) (by omega))
        clear hM7 hk7 HMS
        go_wp2_with fail
        refine HOP.out.mono ?_
        rintro e w8 ⟨g8, R8, rfl, hS8, hG8, _⟩
        have HS8 := Lib.hid hS8
        have hGG := HG7.out.trans hG8
        have HRA8 := Lib.hid (HRA6.out.keepN hGG.keeps (fun h0 x hx => wr_not (HFA5.out x h0 hx).1))
        have HRI8 := Lib.hid (HRI.out.keepN hGG.keeps (fun _ x hx => wr_not (HNI.out x hx).1))
        have HLD := Lib.hid (load_st HEW.out.e2 hS8)
        have HIM := Lib.hid (hS8.clean.image HS6.out.clean)
        generalize d.sync.1.cleaned nx = d8 at *
        clear hS8 hG8 hGG HOP HRA6 HRI HFA5 HNI
        go_wp2_with fail
        refine HLD.out.mono ?_
        rintro e w9 ⟨al, cl, rfl, hol, hk9, _⟩
        rw [HAL.out] at hol ⊢
        have HS9 := Lib.hid (HS8.out.nil hk9)
        have HRI9 := Lib.hid (HRI8.out.keep hk9)
        have hsb := sameBytes_walk (ca := cl) (cb := ca) (hol.row (areB_wf HAB.out)) (HRA8.out.keep hk9)
        rw [sameL_eq.2 rfl] at hsb
        have HSB := Lib.hid hsb
        clear hol hk9 hsb HLD HS8 HRA8 HRI8
        go_wp2_with fail
        refine HSB.out.mono ?_
        rintro e w10 ⟨rfl, hd10⟩
        have hk10 : Keeps Nil w9 w10 := hd10.keeps _
        have HS10 := Lib.hid (HS9.out.nil hk10)
        have HRI10 := Lib.hid (HRI9.out.keep hk10)
        have hi10 := image_walk HS10.out.mine.is HS10.out.ok
        rw [HIM.out, ← HI.out] at hi10
        have HI10 := Lib.hid hi10
        clear hd10 hk10 hi10 HSB HS9 HRI9
        go_wp2_with fail
        refine HI10.out.mono ?_
        rintro e w11 ⟨aj, cj, rfl, hoj, hk11, _⟩
        have HS11 := Lib.hid (HS10.out.nil hk11)
        have hsb := sameBytes_walk (ca := cj) (cb := ci) (hoj.row (areB_wf HIB.out)) (HRI10.out.keep hk11)
        rw [sameL_eq.2 rfl] at hsb
        have HSB := Lib.hid hsb
        clear hoj hk11 hsb HI10 HS10 HRI10
        go_wp2_with fail
        refine HSB.out.mono ?_
        rintro e w12 ⟨rfl, hd12⟩
        have HS12 := Lib.hid (HS11.out.nil (hd12.keeps _))
        have hsq := seq_walk HS12.out.sl
        rw [HNX.out.2.2] at hsq
        have HSQ := Lib.hid hsq
        clear hd12 HS11 HSB hsq
        go_wp2_with fail
        refine HSQ.out.mono ?_
        rintro e w13 ⟨rfl, rfl⟩
        go_wp2_with fail
        go_ret
        exact ⟨rfl, HK1.out.trans HS12.out.mine.keeps⟩
end Go.Proofs.YtkefbgkdkmkghaaDoor
