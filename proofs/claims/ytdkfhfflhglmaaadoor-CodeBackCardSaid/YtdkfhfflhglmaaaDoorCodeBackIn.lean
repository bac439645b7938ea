/-
  The law CodeBack: the function that reads.
-/
import Derived.Test.YtdkfhfflhglmaaaDoorCodeFirst
import Derived.Test.YtdkfhfflhglmaaaDoorRegion
import Derived.Test.YtdkfhfflhglmaaaDoorCodeRows
import Derived.Test.YtdkfhfflhglmaaaDoorLines
namespace Go.Proofs.YtdkfhfflhglmaaaDoor
open Go.RowKit

theorem sameL_refl (l : List Int) : sameL l l = true := by simp [sameL]
/-- How it ends: at the end of what was written, or told that bytes lack. -/
def BackR (gd tot len : Nat) (o : Out) (w : World) : Prop :=
  if tot ≤ len then o = .done tot ∧ Blk w gd [.bool true] 4 else ∃ q, o = .fell q 2


set_option maxRecDepth 100000 in
set_option maxHeartbeats 4000000 in
theorem codeBackIn_walk {w0 w : World} {p : Nat → Addr} (hE : Errs w0 p) (h0 : Keeps Nil w0 w) {gd gn gl gr cr len cap0 : Nat} {n : Int} {a0 ar : Option Addr} {z : Lines} {l : List Int} (hz : IsRows w0 a0 len z) (hlen : len ≤ 20) (h30 : ∀ i, i < len → (z.row i).length ≤ 30) (hl : Encoded l n len z.row) (hl2 : l.length ≤ 100000)
    (hd : Blk w gd [.bool true] 4) (hn : Blk w gn [.int .u32 n] 46) (hb : Blk w gl [.slice a0 len cap0] 65)
    (hr : IsRd 102 w gr ar cr l 0 []) (hgr : w0.heap.size ≤ gr) (hgd : w0.heap.size ≤ gd) (hdr : ¬ wrOf gr ar gd) (hnr : gn ≠ gr) (hlr : gl ≠ gr) (hnd : gn ≠ gd) (hld : gl ≠ gd) :
    Calls Tryd.prog 48 #[.pointer (some ⟨gr, 0, none⟩), .pointer (some ⟨gd, 0, none⟩), .pointer (some ⟨gn, 0, none⟩), .pointer (some ⟨gl, 0, none⟩)] w (ReadIn (One gd) p l gr (BackR gd (posR z.row len) l.length) w) := by
  have hdr' : gd ≠ gr := fun e => hdr (.inl e)
  have hmono0 : 5 ≤ posR z.row len := by have := posR_le z.row 0 len; rw [Nat.zero_add, posR_zero] at this; exact this
  generalize hRR : z.row = R at *
  have hE1 := hE.keep h0
  have cd := hd.cell 0 (v := .bool true) rfl
  have cn := hn.cell 0 (v := .int .u32 n) rfl
  have cl := hb.cell 0 (v := .slice a0 len cap0) rfl
  go_enter Tryd.func48, Tryd.ntmps48
  go_wp2_with fail
  refine wp_region_held_drew (S := fun w' => w'.cell? ⟨gd, 0, none⟩ = some (.bool true) ∧ w'.cell? ⟨gn, 0, none⟩ = some (.int .u32 n) ∧ w'.cell? ⟨gl, 0, none⟩ = some (.slice a0 len cap0)) (by kernel_rfl) ⟨cd, cn, cl⟩ (fun hHeld => ?_)
  refine takeL (i := 0) (v := _) rfl (by kernel_rfl) (by kernel_rfl) (by kernel_rfl) (fun _ _ _ h => h) (Or.inl ⟨by rfl, by intro w hSw; (try dsimp only at hSw); go_simp; try with_reducible rfl⟩) (by assumption) ?_
  try simp only [Act.put, List.setIfInBounds_toArray, List.set_cons_zero, List.set_cons_succ]
  refine takeL (i := 1) (v := _) rfl (by kernel_rfl) (by kernel_rfl) (by kernel_rfl) (fun _ _ _ h => h) (Or.inl ⟨by rfl, by intro w hSw; (try dsimp only at hSw); go_simp; try with_reducible rfl⟩) (by assumption) ?_
  try simp only [Act.put, List.setIfInBounds_toArray, List.set_cons_zero, List.set_cons_succ]
  refine takeL (i := 2) (v := _) rfl (by kernel_rfl) (by kernel_rfl) (by kernel_rfl) (fun _ _ _ h => h) (Or.inl ⟨by rfl, by intro w hSw; (try dsimp only at hSw); go_simp; try with_reducible rfl⟩) (by assumption) ?_
  try simp only [Act.put, List.setIfInBounds_toArray, List.set_cons_zero, List.set_cons_succ]
  refine takeL (i := 4) (v := _) rfl (by kernel_rfl) (by kernel_rfl) (by kernel_rfl) (fun _ _ _ h => h) (Or.inl ⟨by rfl, by intro w hSw; (try dsimp only at hSw); go_simp; try with_reducible rfl⟩) (by assumption) ?_
  try simp only [Act.put, List.setIfInBounds_toArray, List.set_cons_zero, List.set_cons_succ]
  have hrd := hr.keep0 (Keeps.refl Nil w).drew
  have hEd := hE1.keep (Keeps.refl Nil w).drew
  have hkd : Keeps (Plus (One gd) gr) w w.drew := (Keeps.refl _ w).drew
  refine onlyL (i := 3) rfl (by kernel_rfl) (fun K hK => ?_)
  go_simp
  by_cases h4 : l.length < 4
  · refine (rdU32_short hEd hrd (by omega)).mono ?_
    rintro e w2 ⟨g, rfl, hbf, hge, hk2⟩
    have hmono := hmono0
    have hszw : w.heap.size ≤ w.drew.heap.size := Nat.le_refl _
    have hlt : ¬ posR R len ≤ l.length := by have := hmono; omega
    refine ⟨rfl, .inr ⟨_, 2, g, by decide, rfl, hbf, Nat.le_trans hszw hge, ?_⟩, hkd.step hk2 (fun _ h => h.elim)⟩
    unfold BackR
    rw [if_neg hlt]
    exact ⟨_, rfl⟩
  refine (rdU32_ok hrd (by omega)).mono ?_
  rintro e w1 ⟨rfl, h1, hk1⟩
  have hnum := hl.first (by omega)
  rw [hnum]
  have hd1 := (hd.keep0 ((Keeps.refl Nil w).drew)).keep hk1 hdr'
  have hn1 := (hn.keep0 ((Keeps.refl Nil w).drew)).keep hk1 hnr
  have hb1 := (hb.keep0 ((Keeps.refl Nil w).drew)).keep hk1 hlr
  have hkA : Keeps (Plus (One gd) gr) w w1 := hkd.step hk1 (fun i hi => .inl (.inr hi))
  have hk01 : Keeps Nil w0 w1 := h0.step hkA (fun i hi => by
    rcases hi with hi | hi
    · exact .inr (by rw [show i = gd from hi]; exact hgd)
    · exact .inr (by rw [hi]; exact hgr))
  refine (fun hHeld => hK _ _ hHeld ?_) (⟨hd1.cell 0 rfl, hn1.cell 0 rfl, hb1.cell 0 rfl⟩)
  clear hK
  try simp only [Act.put, List.setIfInBounds_toArray, List.set_cons_zero, List.set_cons_succ]
  refine takeL (i := 5) (v := _) rfl (by kernel_rfl) (by kernel_rfl) (by kernel_rfl) (fun _ _ _ h => h) (Or.inl ⟨by rfl, by intro w hSw; (try dsimp only at hSw); go_simp; try with_reducible rfl⟩) (by assumption) ?_
  try simp only [Act.put, List.setIfInBounds_toArray, List.set_cons_zero, List.set_cons_succ]
  refine takeL (i := 6) (v := _) rfl (by kernel_rfl) (by kernel_rfl) (by kernel_rfl) (fun _ _ _ h => h) (Or.inl ⟨by rfl, by intro w hSw; (try dsimp only at hSw); go_simp; try with_reducible rfl⟩) (by assumption) ?_
  try simp only [Act.put, List.setIfInBounds_toArray, List.set_cons_zero, List.set_cons_succ]
  refine takeL (i := 7) (v := _) rfl (by kernel_rfl) (by kernel_rfl) (by kernel_rfl) (fun _ _ _ h => h) (Or.inl ⟨by rfl, by intro w hSw; (try dsimp only at hSw); go_simp; try with_reducible rfl⟩) (by assumption) ?_
  try simp only [Act.put, List.setIfInBounds_toArray, List.set_cons_zero, List.set_cons_succ]
  refine takeL (i := 8) (v := _) rfl (by kernel_rfl) (by kernel_rfl) (by kernel_rfl) (fun _ _ _ h => h) (Or.inl ⟨by rfl, by intro w hSw; (try dsimp only at hSw); go_simp; try with_reducible rfl⟩) (by assumption) ?_
  try simp only [Act.put, List.setIfInBounds_toArray, List.set_cons_zero, List.set_cons_succ]
  refine takeL (i := 10) (v := _) rfl (by kernel_rfl) (by kernel_rfl) (by kernel_rfl) (fun _ _ _ h => h) (Or.inl ⟨by rfl, by intro w hSw; (try dsimp only at hSw); go_simp; try with_reducible rfl⟩) (by assumption) ?_
  try simp only [Act.put, List.setIfInBounds_toArray, List.set_cons_zero, List.set_cons_succ]
  refine takeL (i := 11) (v := _) rfl (by kernel_rfl) (by kernel_rfl) (by kernel_rfl) (fun _ _ _ h => h) (Or.inl ⟨by rfl, by intro w hSw; (try dsimp only at hSw); go_simp; try with_reducible rfl⟩) (by assumption) ?_
  try simp only [Act.put, List.setIfInBounds_toArray, List.set_cons_zero, List.set_cons_succ]
  refine onlyL (i := 9) rfl (by kernel_rfl) (fun K hK => ?_)
  go_simp
  by_cases h5 : l.length < 5
  · have hE1' := hE.keep hk01
    refine (rdU8_short hE1' h1 (by omega)).mono ?_
    rintro e w2 ⟨g, rfl, hbf, hge, hk2⟩
    have hmono := hmono0
    have hszw : w.heap.size ≤ w1.heap.size := hkA.size
    have hlt : ¬ posR R len ≤ l.length := by have := hmono; omega
    refine ⟨rfl, .inr ⟨_, 2, g, by decide, rfl, hbf, Nat.le_trans hszw hge, ?_⟩, hkA.step hk2 (fun _ h => h.elim)⟩
    unfold BackR
    rw [if_neg hlt]
    exact ⟨_, rfl⟩
  refine (rdU8_ok h1 (by omega)).mono ?_
  rintro e w2 ⟨rfl, h2, hk2⟩
  have hcnt : l.getD (0 + 4) 0 = (len : Int) := by
    have h6 := hl.count (by omega)
    rw [show 0 + 4 = 4 from rfl, h6]
    omega
  rw [hcnt]
  have hd2 := hd1.keep hk2 hdr'
  have hn2 := hn1.keep hk2 hnr
  have hb2 := hb1.keep hk2 hlr
  have hkB : Keeps (Plus (One gd) gr) w w2 := hkA.step hk2 (fun i hi => .inl (.inr hi))
  refine (fun hHeld => hK _ _ hHeld ?_) (⟨hd2.cell 0 rfl, hn2.cell 0 rfl, hb2.cell 0 rfl⟩)
  clear hK
  try simp only [Act.put, List.setIfInBounds_toArray, List.set_cons_zero, List.set_cons_succ]
  refine takeL (i := 12) (v := _) rfl (by kernel_rfl) (by kernel_rfl) (by kernel_rfl) (fun _ _ _ h => h) (Or.inl ⟨by rfl, by intro w hSw; (try dsimp only at hSw); go_simp; try with_reducible rfl⟩) (by assumption) ?_
  try simp only [Act.put, List.setIfInBounds_toArray, List.set_cons_zero, List.set_cons_succ]
  refine takeL (i := 13) (v := _) rfl (by kernel_rfl) (by kernel_rfl) (by kernel_rfl) (fun _ _ _ h => h) (Or.inl ⟨by rfl, by intro w hSw; (try dsimp only at hSw); go_simp; try with_reducible rfl⟩) (by assumption) ?_
  try simp only [Act.put, List.setIfInBounds_toArray, List.set_cons_zero, List.set_cons_succ]
  have cd2 := hd2.cell 0 (v := .bool true) rfl
  have zd2 := hd2.frozen 0
  have hs : Keeps (One gd) w2 (w2.setCell ⟨gd, 0, none⟩ (.bool true)) := (Keeps.refl _ _).setOne 0 _
  have hd3 := hd2.set 0 (.bool true)
  have hn3 := hn2.keep hs hnd
  have hb3 := hb2.keep hs hld
  have h3 := h2.keep hs (fun k hk e => hdr (by rw [← show k = gd from e]; exact hk))
  have hkC : Keeps (Plus (One gd) gr) w (w2.setCell ⟨gd, 0, none⟩ (.bool true)) := hkB.step hs (fun i hi => .inl (.inl hi))
  refine onlyL (i := 14) rfl (by kernel_rfl) (fun K hK => ?_)
  go_simp
  refine (fun hHeld => hK _ _ hHeld ?_) (⟨hd3.cell 0 rfl, hn3.cell 0 rfl, hb3.cell 0 rfl⟩)
  clear hK
  try simp only [Act.put, List.setIfInBounds_toArray, List.set_cons_zero, List.set_cons_succ]
  refine wpAnyH_done (by kernel_rfl) ?_ _
  generalize w2.setCell ⟨gd, 0, none⟩ (.bool true) = w3 at *
  clear hs hd2 hn2 hb2 h2 hkB cd2 zd2 hk2 hd1 hn1 hb1 h1 hkA hk1 hrd hEd hkd cd cn cl hHeld
  go_wp2_with fail
  go_loopw [5] (fun v wr => ∃ i : Nat, i ≤ len ∧ v = .int .i64 i ∧ Hid (IsRd 102 wr gr ar cr l (posR R i) [] ∧ Blk wr gd [.bool true] 4 ∧ Keeps (Plus (One gd) gr) w wr)) (fun v _ => len - (intOf v).toNat)
  case atStart => exact ⟨0, Nat.zero_le _, rfl, h3, hd3, hkC⟩
  case round =>
    obtain ⟨i, hi, rfl, hri, hdi, hki⟩ := hrel
    clear h3 hd3 hkC
    have hbi := hb.keep hki (fun hi => by
      rcases hi with hi | hi
      · exact hld hi
      · exact hlr hi)
    have ci := hbi.cell 0 (v := .slice a0 len cap0) rfl
    by_cases hlt : i < len
    · have hk0i : Keeps Nil w0 wr := h0.step hki (fun k hk => by
        rcases hk with hk | hk
        · exact .inr (by rw [show k = gd from hk]; exact hgd)
        · exact .inr (by rw [hk]; exact hgr))
      have hEi := hE.keep hk0i
      obtain ⟨b0, off0, rfl, hb0, hc0⟩ := hz.cell (by omega)
      have hcr := hc0 i hlt
      have hrow0 := hz.row i hlt
      have hl30 := h30 i hlt
      have hps := posR_succ R i
      have hmono : posR R (i + 1) ≤ posR R len := by have := posR_le R (i + 1) (len - (i + 1)); rwa [show i + 1 + (len - (i + 1)) = len by omega] at this
      have hnum := hl.num i hlt
      have hone := hl.one i hlt
      have htwo := hl.two i hlt
      rw [hRR] at hcr hrow0
      clear hc0
      have hszw := hki.size
      go_wp2_with fail
      by_cases h4 : l.length < posR R i + 4
      · refine (rdList_short4 hEi hri 30 (by omega)).mono ?_
        rintro e w2 ⟨g, rfl, hbf, hge, hk2⟩
        go_wp2
        have hlt : ¬ posR R len ≤ l.length := by have := hmono; omega
        refine ⟨rfl, .inr ⟨_, 2, g, by decide, rfl, hbf, Nat.le_trans hszw hge, ?_⟩, hki.step hk2 (fun _ h => h.elim)⟩
        unfold BackR
        rw [if_neg hlt]
        exact ⟨_, rfl⟩
      by_cases h5 : l.length < posR R i + 4 + (R i).length
      · refine (rdList_short hEi hri (fun w' hk' => hE.keep (hk0i.step hk' (fun k hk => .inr (by rw [show k = gr from hk]; exact hgr)))) 30 (by omega) (R i).length (hnum (by omega)) (by omega) (by omega)).mono ?_
        rintro e w2 ⟨g, rfl, hbf, hge, hk2⟩
        go_wp2
        have hlt : ¬ posR R len ≤ l.length := by have := hmono; omega
        refine ⟨rfl, .inr ⟨_, 2, g, by decide, rfl, hbf, Nat.le_trans hszw hge, ?_⟩, hki.step hk2 (fun i hi => .inl (.inr hi))⟩
        unfold BackR
        rw [if_neg hlt]
        exact ⟨_, rfl⟩
      refine (rdList_ok hri 30 (by omega) hl2 (R i).length (hnum (by omega)) (by omega) (by omega)).mono ?_
      rintro e w2 ⟨a2, c2, rfl, ho2, hf2, h2, hk2⟩
      rw [hone (by omega)] at ho2 ⊢
      have hki2 : Keeps (Plus (One gd) gr) w w2 := hki.step hk2 (fun i hi => .inl (.inr hi))
      have hk02 : Keeps Nil w0 w2 := hk0i.step hk2 (fun k hk => .inr (by rw [show k = gr from hk]; exact hgr))
      have hd2 := hdi.keep hk2 hdr'
      have hb2 := hbi.keep hk2 hlr
      have ci2 := hb2.cell 0 (v := .slice (some ⟨b0, off0, none⟩) len cap0) rfl
      have cr2 := hk02.cell hcr (fun h => h)
      have hE2 := hE.keep hk02
      clear ci
      go_wp2_with fail
      by_cases h6 : l.length < posR R i + 4 + (R i).length + (R i).length
      · refine (rdRaw_short hE2 h2 (R i).length (by omega) (by omega)).mono ?_
        rintro e w3 ⟨g, rfl, hbf, hge, hk3⟩
        have hszw := hki2.size
        go_wp2
        have hlt : ¬ posR R len ≤ l.length := by have := hmono; omega
        refine ⟨rfl, .inr ⟨_, 2, g, by decide, rfl, hbf, Nat.le_trans hszw hge, ?_⟩, hki2.step hk3 (fun _ h => h.elim)⟩
        unfold BackR
        rw [if_neg hlt]
        exact ⟨_, rfl⟩
      refine (rdRaw_ok h2 (R i).length (by omega) hl2).mono ?_
      rintro e w3 ⟨a3, c3, rfl, ho3, hf3, h3, hk3⟩
      rw [htwo (by omega)] at ho3 ⊢
      have hki3 : Keeps (Plus (One gd) gr) w w3 := hki2.step hk3 (fun i hi => .inl (.inr hi))
      have hk03 : Keeps Nil w0 w3 := hk02.step hk3 (fun k hk => .inr (by rw [show k = gr from hk]; exact hgr))
      have hd3 := hd2.keep hk3 hdr'
      have hb3 := hb2.keep hk3 hlr
      have ho2' := ho2.keep hk3 (fun k hk e => by have h7 := hf2 k hk; have h8 := hri.obj.lt; have h9 : k = gr := e; omega)
      have ci3 := hb3.cell 0 (v := .slice (some ⟨b0, off0, none⟩) len cap0) rfl
      have cr3 := hk03.cell hcr (fun h => h)
      have cd3 := hd3.cell 0 (v := .bool true) rfl
      have hrow3 := hrow0.keep hk03
      have hs2 := sameBytes_walk (ca := c2) (cb := z.cap i) (ho2'.row hrow0.wf) hrow3
      have HY := Lib.hid (ho3.row hrow0.wf)
      clear ci2 cr2 hk2 hk3 ho2 ho3 h2 hd2 hb2 hE2 hki2 hk02
      go_wp2_with fail
      refine hs2.mono ?_
      rintro e w4 ⟨rfl, hdr4⟩
      rw [sameL_refl]
      have hk4 := hdr4.keeps Nil
      have ci4 := hk4.cell ci3 (fun h => h)
      have cr4 := hk4.cell cr3 (fun h => h)
      clear ci3 cr3
      go_wp2_with fail
      refine (sameBytes_walk (HY.out.keep hk4) (hrow3.keep hk4)).mono ?_
      rintro e w5 ⟨rfl, hdr5⟩
      rw [sameL_refl]
      have hk5 := hk4.trans (hdr5.keeps Nil)
      have hd5 := hd3.keep0 hk5
      have h5r := h3.keep0 hk5
      have cd5 := hd5.cell 0 (v := .bool true) rfl
      have zd5 := hd5.frozen 0
      have hs : Keeps (One gd) w5 (w5.setCell ⟨gd, 0, none⟩ (.bool true)) := (Keeps.refl _ _).setOne 0 _
      have hd6 := hd5.set 0 (.bool true)
      have h6r := h5r.keep hs (fun k hk e => hdr (by rw [← show k = gd from e]; exact hk))
      have hki6 : Keeps (Plus (One gd) gr) w (w5.setCell ⟨gd, 0, none⟩ (.bool true)) := (hki3.step hk5 (fun _ h => h.elim)).step hs (fun i hi => .inl (.inl hi))
      rw [← hps] at h6r
      go_wp2_with fail
      have hcast : ((i : Int) + 1) = ((i + 1 : Nat) : Int) := by omega
      rw [hcast]
      go_roundw
      case rel => first | exact ⟨i + 1, by omega, rfl, h6r, hd6, hki6⟩ | ((repeat apply Exists.intro); exact ⟨⟨i + 1, by omega, rfl, h6r, hd6, hki6⟩, rfl⟩)
      case measure => simp [intOf]; omega
    · obtain rfl : i = len := by omega
      go_wp2_with fail
      go_end0
      have hpos := hri.pos
      refine ⟨.inl ⟨posR R i, _, _, rfl, hri, ?_⟩, hki⟩
      unfold BackR
      rw [if_pos hri.pos]
      exact ⟨rfl, hdi⟩
end Go.Proofs.YtdkfhfflhglmaaaDoor
