/-
  SlotsRoom: as much as there is room for.
-/
import Derived.Test.YtkefbgkdkmkghaaDoorSlotsSt
namespace Go.Proofs.YtkefbgkdkmkghaaDoor
set_option linter.unusedSimpArgs false
set_option linter.unusedVariables false
open Go.RowKit

theorem is_full {w : World} {p : Nat → Addr} (hE : Errs w p) : Calls Tryd.prog 21 #[errO p (some 6), .int .i64 107] w fun e w' => e = .returned (.bool true) ∧ Keeps Nil w w' :=
  (is_walk hE (isErr_O (some 6) (fun k hk => by cases hk; omega)) 107).mono (by
    rintro e w' ⟨he, hk⟩
    exact ⟨he.trans (by rw [show (107 : Int) = codeO (some 6) from rfl, isV_O]), hk⟩)
/-- What Save leaves of what there is no room for. -/
theorem save_no {w0 w : World} {p g : Nat} {R : Roles} {n : Nat} {s : Sv} {c : List Int} {d : Dk} {pe : Nat → Addr} (hE : Errs w0 pe) (h : St w0 w p g R n s c d) {ab : Option Addr} {k cb : Nat} {b : List Int} (hb : Row .u8 w ab k b) (hnc : k ≤ cb) (hcx : cb ≤ 9223372036854775807) (hbR : 0 < k → ∀ x, blkOf ab x → R x = 0)
    (hr : (n - 1) / 2 * 128 < k) :
    Calls Tryd.prog 37 #[.pointer (some ⟨g, 0, none⟩), .slice ab k cb] w fun e w' => ∃ R', e = .returned (errO pe (some 6)) ∧ St w0 w' p g R' n s c d ∧ Keeps (fun k => Wr R k ∨ k = g) w w' ∧ ∀ k, k < w.heap.size → R' k = R k := by
  have hl := hb.llen
  refine (save_walk hE h.mine h.sl h.rg h.gw h.ok (Nat.le_refl _) (by omega) (by rw [h.len]; exact h.h1) h.st.half (by rw [room_eq h.len]; exact h.st.room) hb hnc hcx hbR).mono ?_
  rintro e w' ⟨R', he, hM', hsl, hg, hk, hR⟩
  rw [save_full (.inl (by rw [room_eq h.len, hl]; exact hr))] at he hM' hsl
  exact ⟨R', he, ⟨hM', hsl, hg, h.gw, h.clean, h.st, h.off, h.ok, h.h1, h.hn⟩, hk, hR⟩
set_option maxRecDepth 100000 in
set_option maxHeartbeats 3200000 in
theorem slotsRoom_walk (a b : Int) (w : World) {p : Nat → Addr} (wf0 : (Lit.int .i64 a).wf = true) (wf1 : (Lit.int .i64 b).wf = true) (hE : Errs w p) :
    Calls Tryd.prog 8 #[.int .i64 a, .int .i64 b] w fun e w' => e = .returned (.bool true) ∧ Keeps Nil w w' := by
  have HE := Lib.hid hE
  have HFI := Lib.hid (slotsfirst_walk hE)
  have ha := i64_wf wf0
  have hb := i64_wf wf1
  obtain ⟨n, hn⟩ : ∃ n : Nat, a % 20 + 3 = (n : Int) := ⟨(a % 20 + 3).toNat, by omega⟩
  obtain ⟨q, hq⟩ : ∃ q : Nat, b % 300 + 1 = (q : Int) := ⟨(b % 300 + 1).toNat, by omega⟩
  have hn1 : 3 ≤ n ∧ n ≤ 22 := by omega
  have hq1 : 1 ≤ q ∧ q ≤ 300 := by omega
  have HNA := Lib.hid (fun w => number_walk a 20 w ha.1 ha.2 (by omega) (by omega))
  have HNB := Lib.hid (fun w => number_walk b 300 w hb.1 hb.2 (by omega) (by omega))
  have hnw := fun w => new_walk w (n : Int)
  rw [show newN (n : Int) = n by unfold newN; omega] at hnw
  have HNW := Lib.hid hnw
  obtain ⟨M, hM⟩ : ∃ x, x = (n - 1) / 2 * 128 := ⟨_, rfl⟩
  have hM1 : M ≤ 2000 := by omega
  have hM2 : ((n : Int) - 1) / 2 * 128 = (M : Int) := by omega
  have HMM := Lib.hid hM
  have hA1 : a % 20 = ((n - 3 : Nat) : Int) := by omega
  have hB1 : b % 300 = ((q - 1 : Nat) : Int) := by omega
  have HA1 := Lib.hid hA1
  have HB1 := Lib.hid hB1
  have hn3 : IntKind.i64.wrap (((n - 3 : Nat) : Int) + 3) = (n : Int) := by rw [IntKind.wrap_i64]; omega
  have HNO : Hid (errO p none = .nilIface) := Lib.hid rfl
  clear hE ha hb hn hq hnw hM hA1 hB1 wf0 wf1
  go_enter Tryd.func8, Tryd.ntmps8
  go_wp2_with fail
  refine HFI.out.mono ?_
  rintro e w1 ⟨rfl, hk1⟩
  have HK1 := Lib.hid hk1
  clear HFI hk1
  go_wp2_with fail
  refine (HNA.out w1).mono ?_
  rintro e w2 ⟨rfl, rfl⟩
  rw [HA1.out]
  obtain ⟨n3, hnn3⟩ : ∃ x : Int, x = ((n - 3 : Nat) : Int) := ⟨_, rfl⟩
  have hn3b : n3 + 3 = n := by omega
  rw [← hnn3] at hn3 ⊢
  clear hnn3
  go_wp2_with fail
  refine (HNB.out w1).mono ?_
  rintro e w2 ⟨rfl, rfl⟩
  rw [HB1.out]
  obtain ⟨q3, hqq3⟩ : ∃ x : Int, x = ((q - 1 : Nat) : Int) := ⟨_, rfl⟩
  have hq3b : q3 + 1 = q := by omega
  have hq3 : IntKind.i64.wrap (q3 + 1) = (q : Int) := by rw [IntKind.wrap_i64]; omega
  rw [← hqq3]
  clear hqq3
  go_wp2_with fail
  refine (HNW.out w1).mono ?_
  rintro e w2 hN
  obtain ⟨pp, R, rfl, hMi⟩ := hN.mine
  have HEW := Lib.hid (HE.out.keep HK1.out)
  have HO := Lib.hid (open_new HEW.out hMi (by omega) (by omega))
  clear hN hMi HNA HNB HNW HA1 HB1
  go_wp2_with fail
  refine HO.out.mono ?_
  rintro e w3 ⟨g, R3, rfl, hS3, _, _⟩
  have HS3 := Lib.hid hS3
  have HL3 : Hid (((Dk.new n).cleaned ⟨0, 0, 0⟩).left = -1) := Lib.hid (cleaned_left _ _).1
  generalize (Dk.new n).cleaned ⟨0, 0, 0⟩ = d3 at *
  have hrm := room_st hS3
  rw [← HMM.out] at hrm
  have HRM := Lib.hid hrm
  have HSQ : Hid (Calls Tryd.prog 39 #[.pointer (some ⟨g, 0, none⟩)] w3 fun e w' => e = .returned (.int .i64 0) ∧ w3 = w') := Lib.hid (seq_walk hS3.sl)
  clear hS3 hrm HO
  go_wp2_with fail
  refine HRM.out.mono ?_
  rintro e w4 ⟨rfl, rfl⟩
  go_wp2_with fail
  refine HSQ.out.mono ?_
  rintro e w4 ⟨rfl, rfl⟩
  go_wp2_with fail
  refine HRM.out.mono ?_
  rintro e w4 ⟨rfl, rfl⟩
  go_wp2_with fail
  have hfl := file_walk (n : Int) M w3 (by omega)
  obtain ⟨A, hA⟩ : ∃ A, A = fileL (n : Int) M := ⟨_, rfl⟩
  have hAl : A.length = M := by rw [hA]; exact fileL_len _ _
  have hAb : AreB A := by rw [hA]; exact fileL_bytes _ _
  have HAL := Lib.hid hAl
  have HAB := Lib.hid hAb
  rw [← hA] at hfl
  clear hA hAl hAb
  refine hfl.mono ?_
  rintro e w4 ⟨aa, ca, rfl, hoa, hk4, hfa⟩
  rw [HAL.out] at hoa ⊢
  have HS4 := Lib.hid (HS3.out.nil hk4)
  have HRA := Lib.hid (hoa.row (areB_wf HAB.out))
  have HFA := Lib.hid (show ∀ x, blkOf aa x → R3 x = 0 ∧ x ≠ g from fun x hx => ⟨HS3.out.mine.later (hfa x hx), by have := HS3.out.sl.lt; have := hfa x hx; omega⟩)
  have hca := hoa.2.1
  have hcx := hoa.2.2.1
  unfold maxLen at hcx
  have HSV := Lib.hid (save_free HEW.out HS4.out HL3.out HRA.out hca (by omega) (fun _ x hx => (HFA.out x hx).1) (by rw [← HMM.out]; exact Nat.le_refl _) (by simp))
  clear hfl hoa hk4 hfa hca hcx HRM HSQ HS3
  go_wp2_with fail
  refine HSV.out.mono ?_
  rintro e w5 ⟨R5, D5, rfl, hS5, _, hk5, hR5⟩
  have HRA5 := Lib.hid (HRA.out.keepN hk5 (fun _ x hx hh => hh.elim (wr_not (HFA.out x hx).1) (HFA.out x hx).2))
  have HFA5 := Lib.hid (show ∀ x, 0 < M → blkOf aa x → R5 x = 0 ∧ x ≠ g from fun x h0 hx => ⟨by
    have hlt : x < w4.heap.size := by
      obtain ⟨b, off, e1, hb, _⟩ := HRA.out.cell h0
      subst e1
      rw [(blkOf_some _ _ _ _).1 hx]; exact hb
    rw [hR5 x hlt]; exact (HFA.out x hx).1, (HFA.out x hx).2⟩)
  have HS5 := Lib.hid hS5
  have HSQ : Hid (Calls Tryd.prog 39 #[.pointer (some ⟨g, 0, none⟩)] w5 fun e w' => e = .returned (.int .i64 1) ∧ w5 = w') := Lib.hid (seq_walk hS5.sl)
  have HI5 := Lib.hid (image_walk hS5.mine.is hS5.ok)
  clear hS5 hk5 hR5 HSV HS4 HRA HFA
  go_wp2_with fail
  refine HSQ.out.mono ?_
  rintro e w6 ⟨rfl, rfl⟩
  go_wp2_with fail
  refine HI5.out.mono ?_
  rintro e w6 ⟨ai, ci, rfl, hoi, hk6, hfi⟩
  have hib := HS5.out.ok.image_bytes
  obtain ⟨I, hI⟩ : ∃ I, I = D5.image := ⟨_, rfl⟩
  have HI := Lib.hid hI
  rw [← hI] at hoi hib ⊢
  have hri := hoi.row (areB_wf hib)
  have hno : ∀ x, blkOf ai x → R5 x = 0 ∧ x ≠ g := fun x hx => ⟨HS5.out.mine.later (hfi x hx), by have := HS5.out.sl.lt; have := hfi x hx; omega⟩
  obtain ⟨L, hL⟩ : ∃ L, L = I.length := ⟨_, rfl⟩
  rw [← hL] at hri ⊢
  have HRI := Lib.hid hri
  have HNI := Lib.hid hno
  have HS6 := Lib.hid (HS5.out.nil hk6)
  have HRA6 := Lib.hid (HRA5.out.keep hk6)
  have hrm := room_st HS6.out
  rw [← HMM.out] at hrm
  have HRM := Lib.hid hrm
  have HIB := Lib.hid hib
  clear hI hib hri hno hL hrm hoi hk6 hfi HI5 HSQ HRA5
  go_wp2_with fail
  refine HRM.out.mono ?_
  rintro e w7 ⟨rfl, rfl⟩
  have hMq : IntKind.i64.wrap ((M : Int) + q) = ((M + q : Nat) : Int) := by rw [IntKind.wrap_i64]; omega
  obtain ⟨Mq, hMq2⟩ : ∃ x, x = M + q := ⟨_, rfl⟩
  have hMqb : Mq ≤ 3000 := by omega
  have hMqc : (M : Int) + q = (Mq : Int) := by omega
  rw [← hMq2] at hMq
  have hfl := file_walk 1 Mq w6 (by omega)
  obtain ⟨B, hB⟩ : ∃ B, B = fileL 1 Mq := ⟨_, rfl⟩
  have hBl : B.length = Mq := by rw [hB]; exact fileL_len _ _
  have hBb : AreB B := by rw [hB]; exact fileL_bytes _ _
  have HBL := Lib.hid hBl
  have HBB := Lib.hid hBb
  rw [← hB] at hfl
  have HFL := Lib.hid hfl
  have HMQ := Lib.hid (show M < Mq by omega)
  clear hB hBl hBb hfl hMq2 HRM
  go_wp2_with fail
  refine HFL.out.mono ?_
  rintro e w7 ⟨ab, cb, rfl, hob, hk7, hfb⟩
  rw [HBL.out] at hob ⊢
  have HS7 := Lib.hid (HS6.out.nil hk7)
  have HRA7 := Lib.hid (HRA6.out.keep hk7)
  have HRI7 := Lib.hid (HRI.out.keep hk7)
  have hcb := hob.2.1
  have hcx := hob.2.2.1
  unfold maxLen at hcx
  have HSV := Lib.hid (save_no HEW.out HS7.out (hob.row (areB_wf HBB.out)) hcb (by omega) (fun _ x hx => HS6.out.mine.later (hfb x hx)) (by rw [← HMM.out]; exact HMQ.out))
  clear hob hk7 hfb hcb hcx HFL HS6 HRA6 HRI hMq hMqc
  go_wp2_with fail
  refine HSV.out.mono ?_
  rintro e w8 ⟨R8, rfl, hS8, hk8, hR8⟩
  have HS8 := Lib.hid hS8
  have HRA8 := Lib.hid (HRA7.out.keepN hk8 (fun h0 x hx hh => hh.elim (wr_not (HFA5.out x h0 hx).1) (HFA5.out x h0 hx).2))
  have HRI8 := Lib.hid (HRI7.out.keepN hk8 (fun h0 x hx hh => hh.elim (wr_not (HNI.out x hx).1) (HNI.out x hx).2))
  have HLD := Lib.hid (load_st HEW.out.e2 hS8)
  clear hS8 hk8 hR8 HSV HS7 HRA7 HRI7 HFA5 HNI
  go_wp2_with fail
  refine HLD.out.mono ?_
  rintro e w9 ⟨al, cl, rfl, hol, hk9, _⟩
  rw [HAL.out] at hol ⊢
  have HS9 := Lib.hid (HS8.out.nil hk9)
  have HRA9 := Lib.hid (HRA8.out.keep hk9)
  have HRI9 := Lib.hid (HRI8.out.keep hk9)
  have HRL := Lib.hid (hol.row (areB_wf HAB.out))
  have HIS := Lib.hid (is_full (HEW.out.keep HS9.out.mine.keeps))
  clear hol hk9 HLD HS8 HRA8 HRI8
  go_wp2_with fail
  refine HIS.out.mono ?_
  rintro e w10 ⟨rfl, hk10⟩
  have HS10 := Lib.hid (HS9.out.nil hk10)
  have HRI10 := Lib.hid (HRI9.out.keep hk10)
  have hsb := sameBytes_walk (ca := cl) (cb := ca) (HRL.out.keep hk10) (HRA9.out.keep hk10)
  rw [sameL_eq.2 rfl] at hsb
  have HSB := Lib.hid hsb
  clear hsb hk10 HIS HS9 HRA9 HRI9 HRL
  go_wp2_with fail
  refine HSB.out.mono ?_
  rintro e w11 ⟨rfl, hd11⟩
  have hk11 : Keeps Nil w10 w11 := hd11.keeps _
  have HS11 := Lib.hid (HS10.out.nil hk11)
  have HRI11 := Lib.hid (HRI10.out.keep hk11)
  have hi11 := image_walk HS11.out.mine.is HS11.out.ok
  rw [← HI.out] at hi11
  have HI11 := Lib.hid hi11
  clear hd11 hk11 hi11 HSB HS10 HRI10
  go_wp2_with fail
  refine HI11.out.mono ?_
  rintro e w12 ⟨aj, cj, rfl, hoj, hk12, _⟩
  have HS12 := Lib.hid (HS11.out.nil hk12)
  have hsb := sameBytes_walk (ca := ci) (cb := cj) (HRI11.out.keep hk12) (hoj.row (areB_wf HIB.out))
  rw [sameL_eq.2 rfl] at hsb
  have HSB := Lib.hid hsb
  clear hoj hk12 hsb HI11 HS11 HRI11
  go_wp2_with fail
  refine HSB.out.mono ?_
  rintro e w13 ⟨rfl, hd13⟩
  have HS13 := Lib.hid (HS12.out.nil (hd13.keeps _))
  have HSQ : Hid (Calls Tryd.prog 39 #[.pointer (some ⟨g, 0, none⟩)] w13 fun e w' => e = .returned (.int .i64 1) ∧ w13 = w') := Lib.hid (seq_walk HS13.out.sl)
  clear hd13 HS12 HSB
  go_wp2_with fail
  refine HSQ.out.mono ?_
  rintro e w14 ⟨rfl, rfl⟩
  go_wp2_with fail
  go_ret
  exact ⟨rfl, HK1.out.trans HS13.out.mine.keeps⟩
end Go.Proofs.YtkefbgkdkmkghaaDoor
