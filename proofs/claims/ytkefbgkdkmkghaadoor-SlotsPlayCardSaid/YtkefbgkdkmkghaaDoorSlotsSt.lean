/-
  Slots: a state on the law's disk.
-/
import Derived.Test.YtkefbgkdkmkghaaDoorSlotsFile
namespace Go.Proofs.YtkefbgkdkmkghaaDoor
set_option linter.unusedSimpArgs false
set_option linter.unusedVariables false
open Go.RowKit

structure St (w0 w : World) (p g : Nat) (R : Roles) (n : Nat) (s : Sv) (c : List Int) (d : Dk) : Prop where
  mine : Mine w0 w p R d
  sl : SlAt w g p s
  rg : R g = 0
  gw : w0.heap.size ≤ g
  clean : Clean n s c d
  st : IsState n s c
  off : d.off = false
  ok : d.Ok 1
  h1 : 1 ≤ n
  hn : n ≤ 400
theorem ok_one {d : Dk} {m : Nat} (h : d.Ok m) (hs : Singles d) : d.Ok 1 := ⟨h.some, fun l hl => by
  obtain ⟨i, hi, rfl⟩ := List.mem_iff_getElem.1 hl
  obtain ⟨v, hv⟩ := hs i hi
  unfold Dk.at_ at hv
  rw [show d.vs[i] = [v] by simpa [List.getD, hi] using hv]
  exact Nat.le_refl _, h.each, h.size, h.left⟩
theorem Clean.image {n : Nat} {s : Sv} {c : List Int} {d d' : Dk} (h : Clean n s c d) (h' : Clean n s c d') : d.image = d'.image := by unfold Dk.image; rw [h.vs, h'.vs]
theorem Clean.ones {n : Nat} {s : Sv} {c : List Int} {d : Dk} (h : Clean n s c d) : Singles d := fun i hi => ⟨_, h.at_ i (by rw [← h.len]; exact hi)⟩
theorem St.nil {w0 w w' : World} {p g : Nat} {R : Roles} {n : Nat} {s : Sv} {c : List Int} {d : Dk} (h : St w0 w p g R n s c d) (hk : Keeps Nil w w') : St w0 w' p g R n s c d :=
  ⟨h.mine.nil hk, h.sl.keep hk (fun h => h), h.rg, h.gw, h.clean, h.st, h.off, h.ok, h.h1, h.hn⟩
theorem St.len {w0 w : World} {p g : Nat} {R : Roles} {n : Nat} {s : Sv} {c : List Int} {d : Dk} (h : St w0 w p g R n s c d) : d.vs.length = n := h.clean.len
theorem room_st {w0 w : World} {p g : Nat} {R : Roles} {n : Nat} {s : Sv} {c : List Int} {d : Dk} (h : St w0 w p g R n s c d) :
    Calls Tryd.prog 38 #[.pointer (some ⟨g, 0, none⟩)] w fun e w' => e = .returned (.int .i64 ((n - 1) / 2 * 128 : Nat)) ∧ w = w' := by
  have := room_walk h.mine.is h.sl (by rw [h.len]; exact h.h1) (by rw [h.len]; exact h.hn)
  rw [room_eq h.len] at this
  exact this
theorem load_st {w0 w : World} {p g : Nat} {R : Roles} {n : Nat} {s : Sv} {c : List Int} {d : Dk} {pe : Nat → Addr} (hE : Err2 w0 pe) (h : St w0 w p g R n s c d) :
    Calls Tryd.prog 41 #[.pointer (some ⟨g, 0, none⟩)] w (LoadP w c) := by
  have hl := load_walk hE h.mine h.sl h.ok h.off (by rw [h.len]; exact h.h1) (by rw [first_eq h.len, h.len]; exact h.st.fits h.h1) (by have := h.st.room; have := h.hn; omega) h.st.half
  rw [load_v h.clean.near h.st h.h1] at hl
  exact hl
/-- What Open leaves of a disk on which a state stands. -/
def OpenQ (w0 w : World) (p : Nat) (R : Roles) (n : Nat) (s : Sv) (c : List Int) (d : Dk) (e : Ending) (w' : World) : Prop :=
  ∃ g R', e = .returned (.tuple #[.pointer (some ⟨g, 0, none⟩), .nilIface]) ∧ St w0 w' p g R' n s c d ∧ Grew w w' R R' ∧ w.heap.size ≤ g
theorem open_st {w0 w : World} {p : Nat} {R : Roles} {n : Nat} {s : Sv} {c : List Int} {d : Dk} {pe : Nat → Addr} (hE : ErrS w0 pe) (hM : Mine w0 w p R d) (hN : Near n s c d) (h1s : Singles d) (hs : IsState n s c) {m : Nat} (hok : d.Ok m) (ho : d.off = false) (hl : d.left = -1) (h1 : 1 ≤ n) (hn : n ≤ 400) :
    Calls Tryd.prog 36 #[.pointer (some ⟨p, 0, none⟩)] w (OpenQ w0 w p R n s c (d.cleaned s)) := by
  have h := open_walk hE hM (ok_one hok h1s) (by omega) ho hl (by rw [hN.len]; exact h1)
  rw [near_parse hN hs h1 hn] at h
  refine h.mono ?_
  rintro e w' ⟨g, R', he, hsl, hg, hgw, hM', hG⟩
  have hc := near_clean hN h1s
  exact ⟨g, R', he, ⟨hM', hsl, hg, Nat.le_trans hM.keeps.size hgw, hc, hs, (cleaned_left d s).2.trans ho, ok_one (cleaned_ok (ok_one hok h1s) s) hc.ones, h1, hn⟩, hG, hgw⟩
theorem save_ok {d : Dk} {m : Nat} (h : d.Ok m) (hm : 1 ≤ m) (s : Sv) {b : List Int} (hb : AreB b) : (d.save s b).1.Ok (m + takesN b.length + 1 + takesN s.many) := by
  unfold Dk.save
  split
  · exact h.mono (by omega)
  · dsimp only
    have h1 := puts_ok h hm (d.first (nextSv s b.length).half) hb
    split
    · exact h1.mono (by omega)
    · have h2 := puts_ok h1 (by omega) 0 (headL_bytes (nextSv s b.length))
      rw [headL_len, show takesN 128 = 1 from rfl] at h2
      split
      · exact h2.mono (by omega)
      · split
        · exact h2.mono (by omega)
        · have h3 := puts_ok h2 (by omega) (d.first s.half) (b := List.replicate s.many 0) (fun x hx => by rw [List.eq_of_mem_replicate hx]; omega)
          rw [List.length_replicate] at h3
          exact h3
/-- What Save leaves of a state on the disk. -/
def SaveQ (w0 w : World) (p g : Nat) (R : Roles) (n : Nat) (s : Sv) (c b : List Int) (d : Dk) (pe : Nat → Addr) (e : Ending) (w' : World) : Prop :=
  ∃ R' D s' o, e = .returned (errO pe o) ∧ Saved n s c b d (D, s', o) ∧ Mine w0 w' p R' D ∧ SlAt w' g p s' ∧ R' g = 0 ∧ D.Ok 600 ∧ Keeps (fun k => Wr R k ∨ k = g) w w' ∧ ∀ k, k < w.heap.size → R' k = R k
theorem save_st {w0 w : World} {p g : Nat} {R : Roles} {n : Nat} {s : Sv} {c : List Int} {d : Dk} {pe : Nat → Addr} (hE : ErrS w0 pe) (h : St w0 w p g R n s c d) {ab : Option Addr} {k cb : Nat} {b : List Int} (hb : Row .u8 w ab k b) (hnc : k ≤ cb) (hcx : cb ≤ 9223372036854775807) (hbR : 0 < k → ∀ x, blkOf ab x → R x = 0)
    (hr : k ≤ (n - 1) / 2 * 128) (hq : s.seq < 4294967295) :
    Calls Tryd.prog 37 #[.pointer (some ⟨g, 0, none⟩), .slice ab k cb] w (SaveQ w0 w p g R n s c b d pe) := by
  have hl := hb.llen
  have hn := h.hn
  have hbb := wf_areB hb.wf
  refine (save_walk hE h.mine h.sl h.rg h.gw h.ok (Nat.le_refl _) (by omega) (by rw [h.len]; exact h.h1) h.st.half (by rw [room_eq h.len]; exact h.st.room) hb hnc hcx hbR).mono ?_
  rintro e w' ⟨R', he, hM', hsl, hg, hk, hR⟩
  have hsv := save_saved h.st h.clean h.off hbb (by rw [hl]; exact hr) hq h.h1
  have hok := save_ok h.ok (Nat.le_refl _) s hbb
  refine ⟨R', (d.save s b).1, (d.save s b).2.1, (d.save s b).2.2, he, hsv, hM', hsl, hg, hok.mono ?_, hk, hR⟩
  have := h.st.room
  unfold takesN
  omega
/-- A save with power for all. -/
def SaveF (w0 w : World) (p g : Nat) (R : Roles) (n : Nat) (s : Sv) (b : List Int) (e : Ending) (w' : World) : Prop :=
  ∃ R' D, e = .returned .nilIface ∧ St w0 w' p g R' n (nextSv s b.length) b D ∧ D.left = -1 ∧ Keeps (fun k => Wr R k ∨ k = g) w w' ∧ ∀ k, k < w.heap.size → R' k = R k
theorem save_free {w0 w : World} {p g : Nat} {R : Roles} {n : Nat} {s : Sv} {c : List Int} {d : Dk} {pe : Nat → Addr} (hE : ErrS w0 pe) (h : St w0 w p g R n s c d) (hlf : d.left = -1) {ab : Option Addr} {k cb : Nat} {b : List Int} (hb : Row .u8 w ab k b) (hnc : k ≤ cb) (hcx : cb ≤ 9223372036854775807) (hbR : 0 < k → ∀ x, blkOf ab x → R x = 0)
    (hr : k ≤ (n - 1) / 2 * 128) (hq : s.seq < 4294967295) :
    Calls Tryd.prog 37 #[.pointer (some ⟨g, 0, none⟩), .slice ab k cb] w (SaveF w0 w p g R n s b) := by
  have hl := hb.llen
  have hbb := wf_areB hb.wf
  refine (save_st hE h hb hnc hcx hbR hr hq).mono ?_
  rintro e w' ⟨R', D, s', o, he, hS, hM', hsl, hg, hok, hk, hR⟩
  have hf := hS.free (by omega)
  dsimp only at hf
  have hh := hS.high (.inl (by omega))
  dsimp only at hh
  obtain ⟨hc, ho⟩ := hh.2.2.2 hf.1
  rw [hh.2.1] at hsl
  rw [hf.1] at he
  exact ⟨R', D, he, ⟨hM', hsl, hg, h.gw, hc, nx_state h.st hbb (by rw [hl]; exact hr) hq, ho, ok_one hok hc.ones, h.h1, h.hn⟩, by rw [hf.2, hlf], hk, hR⟩
/-- A new disk, opened. -/
theorem open_new {w0 w : World} {p : Nat} {R : Roles} {n : Nat} {pe : Nat → Addr} (hE : ErrS w0 pe) (hM : Mine w0 w p R (Dk.new n)) (h1 : 1 ≤ n) (hn : n ≤ 400) :
    Calls Tryd.prog 36 #[.pointer (some ⟨p, 0, none⟩)] w (OpenQ w0 w p R n ⟨0, 0, 0⟩ [] ((Dk.new n).cleaned ⟨0, 0, 0⟩)) :=
  open_st hE hM (new_clean n).near (new_clean n).ones (zero_state n) (Dk.new_ok hn) rfl rfl h1 hn
set_option maxRecDepth 20000 in
set_option maxHeartbeats 1600000 in
theorem slotsfirst_walk {w : World} {pe : Nat → Addr} (hE : ErrS w pe) : Calls Tryd.prog 35 #[] w fun e w' => e = .returned (.bool true) ∧ Keeps Nil w w' := by
  have hn := new_walk w 9
  rw [show newN 9 = 9 by decide] at hn
  have HNW := Lib.hid hn
  have HE := Lib.hid hE
  clear hn hE
  go_enter Tryd.func35, Tryd.ntmps35
  go_wp2_with fail
  refine HNW.out.mono ?_
  rintro e w1 hN
  obtain ⟨p, R, rfl, hM⟩ := hN.mine
  have HO := Lib.hid (open_new HE.out hM (by omega) (by omega))
  clear hN hM HNW
  go_wp2_with fail
  refine HO.out.mono ?_
  rintro e w2 ⟨g, R2, rfl, hS2, _, _⟩
  have HS2 := Lib.hid hS2
  have HL2 : Hid (((Dk.new 9).cleaned ⟨0, 0, 0⟩).left = -1) := Lib.hid (cleaned_left _ _).1
  generalize (Dk.new 9).cleaned ⟨0, 0, 0⟩ = d2 at *
  have HRM := Lib.hid (room_st hS2)
  clear hS2 HO
  go_wp2_with fail
  refine HRM.out.mono ?_
  rintro e w3 ⟨rfl, rfl⟩
  rw [show (((9 - 1) / 2 * 128 : Nat) : Int) = 512 from rfl]
  have HLD := Lib.hid (load_st HE.out.e2 HS2.out)
  clear HRM
  go_wp2_with fail
  refine HLD.out.mono ?_
  rintro e w4 ⟨al, cl, rfl, _, hk4, _⟩
  have HS4 := Lib.hid (HS2.out.nil hk4)
  clear hk4 HLD HS2
  rw [show ([] : List Int).length = 0 from rfl]
  have hb5 : Blk (w4.alloc (.cells #[.int .u8 5] 5)) w4.heap.size (byteV [5]) 5 := Blk.new w4 [.int .u8 5] 5
  have hk5 : Keeps Nil w4 (w4.alloc (.cells #[.int .u8 5] 5)) := (Keeps.refl _ _).alloc _
  have hr5 := hb5.row8 (n := 1) (l := [5]) (fun x hx => by rw [List.mem_singleton.1 hx]; omega) rfl (by omega)
  have hR5 : R2 w4.heap.size = 0 := HS4.out.mine.later (Nat.le_refl _)
  have HSV := Lib.hid (save_free HE.out (HS4.out.nil hk5) HL2.out (cb := 1) hr5 (by simp) (by omega) (fun _ x hx => by rw [(blkOf_some _ _ _ _).1 hx]; exact hR5) (by simp) (by simp))
  clear hb5 hk5 hr5 hR5
  go_wp2_with (refine wpList_bs rfl 25 5 1 _ rfl [.int .u8 5] Tryd.underlying25 Tryd.bs8 rfl (by decide) (by decide) rfl (by simp [Value.cells]) ?_)
  refine HSV.out.mono ?_
  rintro e w6 ⟨R6, D6, rfl, hS6, _, _, _⟩
  have HQ : Hid (Calls Tryd.prog 39 #[.pointer (some ⟨g, 0, none⟩)] w6 fun e w' => e = .returned (.int .i64 1) ∧ w6 = w') := Lib.hid (seq_walk hS6.sl)
  have HF := Lib.hid hS6.mine.keeps
  clear hS6 HSV
  go_wp2_with fail
  refine HQ.out.mono ?_
  rintro e w7 ⟨rfl, rfl⟩
  go_wp2_with fail
  go_ret
  exact ⟨rfl, HF.out⟩
end Go.Proofs.YtkefbgkdkmkghaaDoor
