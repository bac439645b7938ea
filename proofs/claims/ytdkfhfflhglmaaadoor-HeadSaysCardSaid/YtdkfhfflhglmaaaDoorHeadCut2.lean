/-
  head.Cut of a header's bytes, and more.
-/
import Derived.Test.YtdkfhfflhglmaaaDoorHeadCut
namespace Go.Proofs.YtdkfhfflhglmaaaDoor
set_option linter.unusedSimpArgs false
set_option linter.unusedVariables false
open Go.RowKit

/-- As many bytes as a header has, and what stands behind them. -/
def CutOk (l : List Int) (w : World) (e : Ending) (w' : World) : Prop :=
  ∃ a cap, e = .returned (.tuple #[.agg (headV (l.take 32) (num4 l 32) (num4 l 36)).toArray, .slice a (l.length - 40) cap, .nilIface]) ∧ Own w' 5 1 a cap (l.length - 40) (byteV (l.drop 40)) ∧ Keeps Nil w w' ∧ (∀ k, blkOf a k → w.heap.size ≤ k)


set_option maxRecDepth 20000 in
set_option maxHeartbeats 6400000 in
theorem headCut_ok {w : World} {p : Nat → Addr} (hE : Errs w p) {b off len capb : Nat} {l : List Int} (hrow : Row .u8 w (some ⟨b, off, none⟩) len l) (hcap : len ≤ capb) (h40 : 40 ≤ len) (hlen : len ≤ 100000) :
    Calls Tryd.prog 62 #[.slice (some ⟨b, off, none⟩) len capb] w (CutOk l w) := by
  have hl := hrow.llen
  have hzv := Tryd.zeroHead
  have hz34 : zeroH.length = 34 := headV_len zk 0 0 zk_len
  have hbr := Blk.new w zeroH 76
  have hka := (Keeps.refl Nil w).alloc (.cells zeroH.toArray 76)
  have hsz := size_alloc' w (.cells zeroH.toArray 76)
  have hblt : b < w.heap.size := by
    obtain ⟨b', o', hb', hlt, _⟩ := hrow.cell (by omega)
    cases hb'; exact hlt
  have hrow40 : Row .u8 w (some ⟨b, off, none⟩) 40 (l.take 40) := by
    refine ⟨by rw [List.length_take]; omega, by omega, fun _ => ?_, fun x hx => hrow.wf x (List.mem_of_mem_take hx)⟩
    obtain ⟨b', o', hb', hlt, hc⟩ := hrow.cell (by omega)
    refine ⟨b', o', hb', hlt, fun i hi => ?_⟩
    rw [hc i (by omega)]
    simp [List.getD, hi]
  have hT40 : (l.take 40).length = 40 := by rw [List.length_take]; omega
  have HR := Lib.hid (fun (wx : World) (hk : Keeps Nil w wx) => headRead_walk (hE.keep hk) (hrow40.keep hk) (capb := capb) (fun h => by cases h) (by omega))
  have hH0 : readH (l.take 40) = headV (l.take 32) (num4 l 32) (num4 l 36) := by
    unfold readH
    rw [if_pos hT40, List.take_take, num4_take _ _ _ (by omega), num4_take _ _ _ (by omega)]
    rfl
  have hd34 := headV_len (l.take 32) (num4 l 32) (num4 l 36) (by rw [List.length_take]; omega)
  have hd1 := headV_one (l.take 32) (num4 l 32) (num4 l 36)
  have hd40 : (l.drop 40).length = l.length - 40 := by rw [List.length_drop]
  have hdrop : Row .u8 w (some ⟨b, off + 40, none⟩) (len - 40) (l.drop 40) := by
    refine ⟨by rw [List.length_drop]; omega, by omega, fun h0 => ?_, fun x hx => hrow.wf x (List.mem_of_mem_drop hx)⟩
    obtain ⟨b', o', hb', hlt, hc⟩ := hrow.cell (by omega)
    cases hb'
    refine ⟨b, off + 40, rfl, hlt, fun i hi => ?_⟩
    have := hc (40 + i) (by omega)
    rw [← Nat.add_assoc] at this
    rw [this]
    simp [List.getD]
  have hdropE : len - 40 = 0 → Row .u8 w (some ⟨b, off, none⟩) (len - 40) (l.drop 40) := fun h0 => ⟨by rw [List.length_drop]; omega, by omega, fun h => by omega, fun x hx => hrow.wf x (List.mem_of_mem_drop hx)⟩
  have hmin : min (len : Int) 40 = 40 := by omega
  have hl1 : (40 : Int) ≤ capb := by omega
  have hl2 : (40 : Int) ≤ len := by omega
  have hl3 : (len : Int) ≤ capb := by omega
  have hl4 : 40 ≤ capb := by omega
  unfold CutOk
  generalize hzz : zeroH = zc at *
  generalize hdd : headV (l.take 32) (num4 l 32) (num4 l 36) = hd at *
  have HD := Lib.hid hdd
  clear hzz hdd
  by_cases h40e : len = 40
  · have hdk : decide ((40 : Int) < len) = false := by simp; omega
    go_enter Tryd.func62, Tryd.ntmps62
    go_wp2_with fail
    refine (HR.out _ hka).mono ?_
    rintro e w1 ⟨v, rfl, hI, hfr, hk1⟩
    rw [hH0]
    rw [hT40] at hI
    obtain rfl := hI.none (by simp [readC])
    have hbr1 := hbr.keep0 hk1
    have hk1w := hka.trans hk1
    have hb := Blk.new w1 zc 76
    have hkb := (Keeps.refl Nil w1).alloc (.cells zc.toArray 76)
    have hne : ¬ w.heap.size = w1.heap.size := by have := hbr1.lt; omega
    have hU := Tryd.underlying76
    have hI34 : (Tryd.prog.info? 76).map (·.size) = some hd.length := by rw [hd34]; exact Tryd.infoHead
    have HX := Lib.hid (And.intro hdrop hdropE)
    clear HR hH0 hbr hka hrow hE hfr hI hrow40 hT40 hdrop hdropE hsz hdk
    go_wp2_with (refine wpl_store rfl 76 _ _ rfl w1.heap.size rfl hd rfl hb (by rw [hd34, hz34]) hI34 hd1 ?_)
    intro w2 hb2 hk2 hs2
    have hKs : Keeps (One w1.heap.size) w1 w2 := (hkb.nil (S := One w1.heap.size)).step hk2 (fun i hi => .inl hi)
    have hlt1 := hbr1.lt
    have hK2 : Keeps Nil w w2 := hk1w.step hKs (fun i hi => .inr (by rw [show i = w1.heap.size from hi]; omega))
    have hbr2 := hbr1.keep hKs (fun e => hne e)
    clear hKs hk2 hkb hb hbr1 hk1w hk1 hs2 hmin
    go_wp2_with fail
    have hlz : len - 40 = 0 := by omega
    by_cases hce : capb = 40
    · subst hce
      have hrow2 := (HX.out.2 (by omega)).keep hK2
      rw [hlz] at hrow2
      clear HX
      refine wp_region_held_drew (S := fun w' => w'.rangeAt w1.heap.size 0 hd) (by kernel_rfl) hb2.range0 (fun hHeld => ?_)
      refine takeL (i := 0) (v := _) rfl (by kernel_rfl) (by kernel_rfl) (by kernel_rfl) (fun _ _ _ h => h) (yieldsIf_load_mid (by rfl) 76 _ rfl w1.heap.size 0 rfl (hd) _ (fun w hSw => hSw) hU rfl hI34) (by assumption) ?_
      try simp only [Act.put, List.setIfInBounds_toArray, List.set_cons_zero, List.set_cons_succ]
      refine takeL (i := 1) (v := _) rfl (by kernel_rfl) (by kernel_rfl) (by kernel_rfl) (fun _ _ _ h => h) (Or.inl ⟨by rfl, by intro w hSw; (try dsimp only at hSw); go_simp; try with_reducible rfl⟩) (by assumption) ?_
      try simp only [Act.put, List.setIfInBounds_toArray, List.set_cons_zero, List.set_cons_succ]
      refine takeL (i := 2) (v := _) rfl (by kernel_rfl) (by kernel_rfl) (by kernel_rfl) (fun _ _ _ h => h) (Or.inl ⟨by rfl, by intro w hSw; (try dsimp only at hSw); go_simp; try with_reducible rfl⟩) (by assumption) ?_
      try simp only [Act.put, List.setIfInBounds_toArray, List.set_cons_zero, List.set_cons_succ]
      refine takeL (i := 3) (v := _) rfl (by kernel_rfl) (by kernel_rfl) (by kernel_rfl) (fun _ _ _ h => h) (Or.inl ⟨by rfl, by intro w hSw; (try dsimp only at hSw); go_simp; try with_reducible rfl⟩) (by assumption) ?_
      try simp only [Act.put, List.setIfInBounds_toArray, List.set_cons_zero, List.set_cons_succ]
      refine onlyL (i := 4) rfl (by kernel_rfl) (fun K hK => ?_)
      go_simp
      refine (cloneB_walk (hrow2.keep (Keeps.refl Nil _).drew) (fun h => by cases h) (by omega)).mono ?_
      rintro e w3 ⟨a3, c3, rfl, ho3, hk3, hf3⟩
      rw [hd40] at ho3 ⊢
      have hf3' : ∀ k, blkOf a3 k → w2.heap.size ≤ k := hf3
      have hsK := hK2.size
      have hlt3 := hbr2.lt
      have hkB := (Keeps.refl Nil w2).drew.trans hk3
      have hb3 := hb2.keep0 hkB
      have hr3 := hbr2.keep0 hkB
      refine (fun hHeld => hK _ _ hHeld ?_) (hb3.range0)
      clear hK
      try simp only [Act.put, List.setIfInBounds_toArray, List.set_cons_zero, List.set_cons_succ]
      refine onlyL (i := 5) rfl (by kernel_rfl) (fun K hK => ?_)
      refine step_store rfl 76 _ _ rfl w.heap.size rfl hd rfl hr3 (by rw [hd34, hz34]) hI34 hd1 ?_
      intro w4 hb4 hk4 hs4
      refine (fun hHeld => hK _ _ hHeld ?_) ((hb3.keep hk4 (fun e => hne e.symm)).range0)
      clear hK
      try simp only [Act.put, List.setIfInBounds_toArray, List.set_cons_zero, List.set_cons_succ]
      refine takeL (i := 6) (v := _) rfl (by kernel_rfl) (by kernel_rfl) (by kernel_rfl) (fun _ _ _ h => h) (Or.inl ⟨by rfl, by intro w hSw; (try dsimp only at hSw); go_simp; try with_reducible rfl⟩) (by assumption) ?_
      try simp only [Act.put, List.setIfInBounds_toArray, List.set_cons_zero, List.set_cons_succ]
      refine takeL (i := 7) (v := _) rfl (by kernel_rfl) (by kernel_rfl) (by kernel_rfl) (fun _ _ _ h => h) (Or.inl ⟨by rfl, by intro w hSw; (try dsimp only at hSw); go_simp; try with_reducible rfl⟩) (by assumption) ?_
      try simp only [Act.put, List.setIfInBounds_toArray, List.set_cons_zero, List.set_cons_succ]
      refine wpAnyH_done (by kernel_rfl) ?_ _
      go_wp2_with fail
      refine ret_blk_tmp2 Tryd.results62 w.heap.size rfl hb4 _ hU rfl hI34 rfl rfl rfl ⟨a3, c3, by first | rfl | (simp; omega), ho3.keep hk4 (fun k hk e => by have h1 := hf3' k hk; have h2 : k = w.heap.size := e; omega), (hK2.trans hkB).step hk4 (fun i hi => .inr (by rw [show i = w.heap.size from hi]; exact Nat.le_refl _)), fun k hk => by have := hf3' k hk; omega⟩
    · have hrow2 := HX.out.1.keep hK2
      rw [hlz] at hrow2
      clear HX
      refine wp_region_held_drew (S := fun w' => w'.rangeAt w1.heap.size 0 hd) (by kernel_rfl) hb2.range0 (fun hHeld => ?_)
      refine takeL (i := 0) (v := _) rfl (by kernel_rfl) (by kernel_rfl) (by kernel_rfl) (fun _ _ _ h => h) (yieldsIf_load_mid (by rfl) 76 _ rfl w1.heap.size 0 rfl (hd) _ (fun w hSw => hSw) hU rfl hI34) (by assumption) ?_
      try simp only [Act.put, List.setIfInBounds_toArray, List.set_cons_zero, List.set_cons_succ]
      refine takeL (i := 1) (v := _) rfl (by kernel_rfl) (by kernel_rfl) (by kernel_rfl) (fun _ _ _ h => h) (Or.inl ⟨by rfl, by intro w hSw; (try dsimp only at hSw); go_simp; try with_reducible rfl⟩) (by assumption) ?_
      try simp only [Act.put, List.setIfInBounds_toArray, List.set_cons_zero, List.set_cons_succ]
      refine takeL (i := 2) (v := _) rfl (by kernel_rfl) (by kernel_rfl) (by kernel_rfl) (fun _ _ _ h => h) (Or.inl ⟨by rfl, by intro w hSw; (try dsimp only at hSw); go_simp; try with_reducible rfl⟩) (by assumption) ?_
      try simp only [Act.put, List.setIfInBounds_toArray, List.set_cons_zero, List.set_cons_succ]
      refine takeL (i := 3) (v := _) rfl (by kernel_rfl) (by kernel_rfl) (by kernel_rfl) (fun _ _ _ h => h) (Or.inl ⟨by rfl, by intro w hSw; (try dsimp only at hSw); go_simp; try with_reducible rfl⟩) (by assumption) ?_
      try simp only [Act.put, List.setIfInBounds_toArray, List.set_cons_zero, List.set_cons_succ]
      refine onlyL (i := 4) rfl (by kernel_rfl) (fun K hK => ?_)
      go_simp
      refine (cloneB_walk (hrow2.keep (Keeps.refl Nil _).drew) (fun h => by cases h) (by omega)).mono ?_
      rintro e w3 ⟨a3, c3, rfl, ho3, hk3, hf3⟩
      rw [hd40] at ho3 ⊢
      have hf3' : ∀ k, blkOf a3 k → w2.heap.size ≤ k := hf3
      have hsK := hK2.size
      have hlt3 := hbr2.lt
      have hkB := (Keeps.refl Nil w2).drew.trans hk3
      have hb3 := hb2.keep0 hkB
      have hr3 := hbr2.keep0 hkB
      refine (fun hHeld => hK _ _ hHeld ?_) (hb3.range0)
      clear hK
      try simp only [Act.put, List.setIfInBounds_toArray, List.set_cons_zero, List.set_cons_succ]
      refine onlyL (i := 5) rfl (by kernel_rfl) (fun K hK => ?_)
      refine step_store rfl 76 _ _ rfl w.heap.size rfl hd rfl hr3 (by rw [hd34, hz34]) hI34 hd1 ?_
      intro w4 hb4 hk4 hs4
      refine (fun hHeld => hK _ _ hHeld ?_) ((hb3.keep hk4 (fun e => hne e.symm)).range0)
      clear hK
      try simp only [Act.put, List.setIfInBounds_toArray, List.set_cons_zero, List.set_cons_succ]
      refine takeL (i := 6) (v := _) rfl (by kernel_rfl) (by kernel_rfl) (by kernel_rfl) (fun _ _ _ h => h) (Or.inl ⟨by rfl, by intro w hSw; (try dsimp only at hSw); go_simp; try with_reducible rfl⟩) (by assumption) ?_
      try simp only [Act.put, List.setIfInBounds_toArray, List.set_cons_zero, List.set_cons_succ]
      refine takeL (i := 7) (v := _) rfl (by kernel_rfl) (by kernel_rfl) (by kernel_rfl) (fun _ _ _ h => h) (Or.inl ⟨by rfl, by intro w hSw; (try dsimp only at hSw); go_simp; try with_reducible rfl⟩) (by assumption) ?_
      try simp only [Act.put, List.setIfInBounds_toArray, List.set_cons_zero, List.set_cons_succ]
      refine wpAnyH_done (by kernel_rfl) ?_ _
      go_wp2_with fail
      refine ret_blk_tmp2 Tryd.results62 w.heap.size rfl hb4 _ hU rfl hI34 rfl rfl rfl ⟨a3, c3, by first | rfl | (simp; omega), ho3.keep hk4 (fun k hk e => by have h1 := hf3' k hk; have h2 : k = w.heap.size := e; omega), (hK2.trans hkB).step hk4 (fun i hi => .inr (by rw [show i = w.heap.size from hi]; exact Nat.le_refl _)), fun k hk => by have := hf3' k hk; omega⟩
  · have hdk : (40 : Int) < len := by omega
    go_enter Tryd.func62, Tryd.ntmps62
    go_wp2_with fail
    refine (HR.out _ hka).mono ?_
    rintro e w1 ⟨v, rfl, hI, hfr, hk1⟩
    rw [hH0]
    rw [hT40] at hI
    obtain rfl := hI.none (by simp [readC])
    have hbr1 := hbr.keep0 hk1
    have hk1w := hka.trans hk1
    have hb := Blk.new w1 zc 76
    have hkb := (Keeps.refl Nil w1).alloc (.cells zc.toArray 76)
    have hne : ¬ w.heap.size = w1.heap.size := by have := hbr1.lt; omega
    have hU := Tryd.underlying76
    have hI34 : (Tryd.prog.info? 76).map (·.size) = some hd.length := by rw [hd34]; exact Tryd.infoHead
    have HX := Lib.hid (And.intro hdrop hdropE)
    clear HR hH0 hbr hka hrow hE hfr hI hrow40 hT40 hdrop hdropE hsz hdk
    go_wp2_with (refine wpl_store rfl 76 _ _ rfl w1.heap.size rfl hd rfl hb (by rw [hd34, hz34]) hI34 hd1 ?_)
    intro w2 hb2 hk2 hs2
    have hKs : Keeps (One w1.heap.size) w1 w2 := (hkb.nil (S := One w1.heap.size)).step hk2 (fun i hi => .inl hi)
    have hlt1 := hbr1.lt
    have hK2 : Keeps Nil w w2 := hk1w.step hKs (fun i hi => .inr (by rw [show i = w1.heap.size from hi]; omega))
    have hbr2 := hbr1.keep hKs (fun e => hne e)
    clear hKs hk2 hkb hb hbr1 hk1w hk1 hs2 hmin
    go_wp2_with fail
    have hce : ¬ capb = 40 := by omega
    have hrow2 := HX.out.1.keep hK2
    clear HX
    refine wp_region_held_drew (S := fun w' => w'.rangeAt w1.heap.size 0 hd) (by kernel_rfl) hb2.range0 (fun hHeld => ?_)
    refine takeL (i := 0) (v := _) rfl (by kernel_rfl) (by kernel_rfl) (by kernel_rfl) (fun _ _ _ h => h) (yieldsIf_load_mid (by rfl) 76 _ rfl w1.heap.size 0 rfl (hd) _ (fun w hSw => hSw) hU rfl hI34) (by assumption) ?_
    try simp only [Act.put, List.setIfInBounds_toArray, List.set_cons_zero, List.set_cons_succ]
    refine takeL (i := 1) (v := _) rfl (by kernel_rfl) (by kernel_rfl) (by kernel_rfl) (fun _ _ _ h => h) (Or.inl ⟨by rfl, by intro w hSw; (try dsimp only at hSw); go_simp; try with_reducible rfl⟩) (by assumption) ?_
    try simp only [Act.put, List.setIfInBounds_toArray, List.set_cons_zero, List.set_cons_succ]
    refine takeL (i := 2) (v := _) rfl (by kernel_rfl) (by kernel_rfl) (by kernel_rfl) (fun _ _ _ h => h) (Or.inl ⟨by rfl, by intro w hSw; (try dsimp only at hSw); go_simp; try with_reducible rfl⟩) (by assumption) ?_
    try simp only [Act.put, List.setIfInBounds_toArray, List.set_cons_zero, List.set_cons_succ]
    refine takeL (i := 3) (v := _) rfl (by kernel_rfl) (by kernel_rfl) (by kernel_rfl) (fun _ _ _ h => h) (Or.inl ⟨by rfl, by intro w hSw; (try dsimp only at hSw); go_simp; try with_reducible rfl⟩) (by assumption) ?_
    try simp only [Act.put, List.setIfInBounds_toArray, List.set_cons_zero, List.set_cons_succ]
    refine onlyL (i := 4) rfl (by kernel_rfl) (fun K hK => ?_)
    go_simp
    refine (cloneB_walk (hrow2.keep (Keeps.refl Nil _).drew) (fun h => by cases h) (by omega)).mono ?_
    rintro e w3 ⟨a3, c3, rfl, ho3, hk3, hf3⟩
    rw [hd40] at ho3 ⊢
    have hf3' : ∀ k, blkOf a3 k → w2.heap.size ≤ k := hf3
    have hsK := hK2.size
    have hlt3 := hbr2.lt
    have hkB := (Keeps.refl Nil w2).drew.trans hk3
    have hb3 := hb2.keep0 hkB
    have hr3 := hbr2.keep0 hkB
    refine (fun hHeld => hK _ _ hHeld ?_) (hb3.range0)
    clear hK
    try simp only [Act.put, List.setIfInBounds_toArray, List.set_cons_zero, List.set_cons_succ]
    refine onlyL (i := 5) rfl (by kernel_rfl) (fun K hK => ?_)
    refine step_store rfl 76 _ _ rfl w.heap.size rfl hd rfl hr3 (by rw [hd34, hz34]) hI34 hd1 ?_
    intro w4 hb4 hk4 hs4
    refine (fun hHeld => hK _ _ hHeld ?_) ((hb3.keep hk4 (fun e => hne e.symm)).range0)
    clear hK
    try simp only [Act.put, List.setIfInBounds_toArray, List.set_cons_zero, List.set_cons_succ]
    refine takeL (i := 6) (v := _) rfl (by kernel_rfl) (by kernel_rfl) (by kernel_rfl) (fun _ _ _ h => h) (Or.inl ⟨by rfl, by intro w hSw; (try dsimp only at hSw); go_simp; try with_reducible rfl⟩) (by assumption) ?_
    try simp only [Act.put, List.setIfInBounds_toArray, List.set_cons_zero, List.set_cons_succ]
    refine takeL (i := 7) (v := _) rfl (by kernel_rfl) (by kernel_rfl) (by kernel_rfl) (fun _ _ _ h => h) (Or.inl ⟨by rfl, by intro w hSw; (try dsimp only at hSw); go_simp; try with_reducible rfl⟩) (by assumption) ?_
    try simp only [Act.put, List.setIfInBounds_toArray, List.set_cons_zero, List.set_cons_succ]
    refine wpAnyH_done (by kernel_rfl) ?_ _
    go_wp2_with fail
    refine ret_blk_tmp2 Tryd.results62 w.heap.size rfl hb4 _ hU rfl hI34 rfl rfl rfl ⟨a3, c3, by first | rfl | (simp; omega), ho3.keep hk4 (fun k hk e => by have h1 := hf3' k hk; have h2 : k = w.heap.size := e; omega), (hK2.trans hkB).step hk4 (fun i hi => .inr (by rw [show i = w.heap.size from hi]; exact Nat.le_refl _)), fun k hk => by have := hf3' k hk; omega⟩
end Go.Proofs.YtdkfhfflhglmaaaDoor
