/-
  courierref12.Step, Draw, Root: the document's chains.
-/
import Derived.Test.YtnkahfpinkgimaaDoorChain
import Derived.Test.YtnkahfpinkgimaaDoorRefDerive
namespace Go.Proofs.YtnkahfpinkgimaaDoor
set_option linter.unusedSimpArgs false
set_option linter.unusedVariables false
open Go.RowKit

set_option maxRecDepth 20000 in
set_option maxHeartbeats 3200000 in
theorem refStep_walk {w : World} {z : List Int} (hz : Key32 z) : Calls Tryd.prog 28 #[keyV z] w (TwoPost w (stepChain z) (stepKey z)) := by
  have hzv := Tryd.zeroK32
  have HZ := Lib.hid (show (byteV z32).length = 32 by rw [byteV_len, z32_len])
  generalize byteV z32 = Z at *
  have hcl : (byteV (stepChain z)).length = 32 ∧ (byteV (stepKey z)).length = 32 := ⟨by rw [byteV_len]; exact macL_len _ _, by rw [byteV_len]; exact macL_len _ _⟩
  obtain ⟨wA, hwA, hbx, hb2, hb3, hkA, hsA⟩ := alloc3 w (byteV z) 23 Z 23 Z 23
  have HWA := Lib.hid hwA
  clear hwA
  go_enter Tryd.func28, Tryd.ntmps28
  go_wp2_with fail
  rw [← HWA.out]
  clear HWA
  have hr2 : w.heap.size ≤ w.heap.size + 1 := by omega
  refine wp_region_held_drew (S := fun _ => True) (by kernel_rfl) trivial (fun hHeld => ?_)
  have hKB : Keeps Nil w wA.drew := hkA.drew
  replace hbx := hbx.drew
  replace hb2 := hb2.drew
  replace hb3 := hb3.drew
  generalize wA.drew = v0 at *
  clear hkA hsA
  generalize hr2' : w.heap.size + 1 = r2 at *
  generalize hr3' : r2 + 1 = r3 at *
  refine takeL (i := 0) (v := _) rfl (by kernel_rfl) (by kernel_rfl) (by kernel_rfl) (fun _ _ _ h => h) (Or.inl ⟨by rfl, by intro w hSw; (try dsimp only at hSw); go_simp; try with_reducible rfl⟩) (by assumption) ?_
  try simp only [Act.put, List.setIfInBounds_toArray, List.set_cons_zero, List.set_cons_succ]
  refine takeL (i := 3) (v := _) rfl (by kernel_rfl) (by kernel_rfl) (by kernel_rfl) (fun _ _ _ h => h) (Or.inl ⟨by rfl, by intro w hSw; (try dsimp only at hSw); go_simp; try with_reducible rfl⟩) (by assumption) ?_
  try simp only [Act.put, List.setIfInBounds_toArray, List.set_cons_zero, List.set_cons_succ]
  refine bothL (i := 1) (j := 4) rfl rfl (by kernel_rfl) (fun K hK => ?_) (fun K hK => ?_)
  · skip
    refine step_bsK rfl _ 5 1 _ rfl [.int .u8 2] Tryd.underlying27 Tryd.bs8 rfl (by decide) (by decide) (by simp [Act.eval]) (by simp [Value.cells]) ?_
    intro g1 w1 hg1 hp1 qk
    clear hg1
    refine (fun hHeld => hK _ _ hHeld ?_) (trivial)
    clear hK
    try simp only [Act.put, List.setIfInBounds_toArray, List.set_cons_zero, List.set_cons_succ]
    replace hKB := hKB.trans qk
    replace hbx := hbx.keep0 qk
    replace hb2 := hb2.keep0 qk
    replace hb3 := hb3.keep0 qk
    refine bothL (i := 2) (j := 4) rfl rfl (by kernel_rfl) (fun K hK => ?_) (fun K hK => ?_)
    · skip
      go_simp
      refine (refMac_walk (cap := 32) (hbx.row8 hz.2 hz.1 (by omega)) (m := 1) (cm := 1) (Blk.row8 (T := 5) (l := [2]) (n := 1) hp1 (fun x hx => by rw [List.mem_singleton.1 hx]; decide) rfl (by omega)) (fun h => by cases h) (by omega) (by omega)).mono ?_
      rintro e w3 ⟨rfl, qk⟩
      rw [show macL z [2] = stepChain z from rfl]
      refine (fun hHeld => hK _ _ hHeld ?_) (trivial)
      clear hK
      try simp only [Act.put, List.setIfInBounds_toArray, List.set_cons_zero, List.set_cons_succ]
      replace hKB := hKB.trans qk
      replace hbx := hbx.keep0 qk
      replace hb2 := hb2.keep0 qk
      replace hb3 := hb3.keep0 qk
      refine onlyL (i := 4) rfl (by kernel_rfl) (fun K hK => ?_)
      refine step_bsK rfl _ 5 1 _ rfl [.int .u8 1] Tryd.underlying27 Tryd.bs8 rfl (by decide) (by decide) (by simp [Act.eval]) (by simp [Value.cells]) ?_
      intro g5 w5 hg5 hp5 qk
      clear hg5
      refine (fun hHeld => hK _ _ hHeld ?_) (trivial)
      clear hK
      try simp only [Act.put, List.setIfInBounds_toArray, List.set_cons_zero, List.set_cons_succ]
      replace hKB := hKB.trans qk
      replace hbx := hbx.keep0 qk
      replace hb2 := hb2.keep0 qk
      replace hb3 := hb3.keep0 qk
      refine onlyL (i := 5) rfl (by kernel_rfl) (fun K hK => ?_)
      go_simp
      refine (refMac_walk (cap := 32) (hbx.row8 hz.2 hz.1 (by omega)) (m := 1) (cm := 1) (Blk.row8 (T := 5) (l := [1]) (n := 1) hp5 (fun x hx => by rw [List.mem_singleton.1 hx]; decide) rfl (by omega)) (fun h => by cases h) (by omega) (by omega)).mono ?_
      rintro e w7 ⟨rfl, qk⟩
      rw [show macL z [1] = stepKey z from rfl]
      refine (fun hHeld => hK _ _ hHeld ?_) (trivial)
      clear hK
      try simp only [Act.put, List.setIfInBounds_toArray, List.set_cons_zero, List.set_cons_succ]
      replace hb2 := hb2.keep0 qk
      replace hb3 := hb3.keep0 qk
      replace hKB := hKB.trans qk
      replace hbx := hbx.keep0 qk
      refine onlyL (i := 6) rfl (by kernel_rfl) (fun K hK => ?_)
      refine step_store rfl 23 _ _ rfl r2 rfl (byteV (stepChain z)) rfl hb2 (by rw [hcl.1, HZ.out]) (by rw [hcl.1]; exact Tryd.infoK) (byteV_one _) ?_
      intro w8 hb8 hk8 hs8
      have hb38 := hb3.keep hk8 (fun e => by have e' : r3 = r2 := e; omega)
      have hKB8 := hKB.step hk8 (fun i hi => .inr (by rw [show i = r2 from hi]; exact hr2))
      refine (fun hHeld => hK _ _ hHeld ?_) (trivial)
      clear hK
      try simp only [Act.put, List.setIfInBounds_toArray, List.set_cons_zero, List.set_cons_succ]
      refine onlyL (i := 7) rfl (by kernel_rfl) (fun K hK => ?_)
      refine step_store rfl 23 _ _ rfl r3 rfl (byteV (stepKey z)) rfl hb38 (by rw [hcl.2, HZ.out]) (by rw [hcl.2]; exact Tryd.infoK) (byteV_one _) ?_
      intro w9 hb9 hk9 hs9
      have hb29 := hb8.keep hk9 (fun e => by have e' : r2 = r3 := e; omega)
      have hKB9 := hKB8.step hk9 (fun i hi => .inr (by rw [show i = r3 from hi]; omega))
      refine (fun hHeld => hK _ _ hHeld ?_) (trivial)
      clear hK
      try simp only [Act.put, List.setIfInBounds_toArray, List.set_cons_zero, List.set_cons_succ]
      refine wpAnyH_done (by kernel_rfl) ?_ _
      go_wp2_with fail
      exact ret_blk2 Tryd.results28 r2 r3 rfl rfl hb29 hb9 _ Tryd.undK rfl (by rw [hcl.1]; exact Tryd.infoK) (by rw [hcl.2]; exact Tryd.infoK) rfl ⟨rfl, hKB9⟩
    · skip
      refine step_bsK rfl _ 5 1 _ rfl [.int .u8 1] Tryd.underlying27 Tryd.bs8 rfl (by decide) (by decide) (by simp [Act.eval]) (by simp [Value.cells]) ?_
      intro g5 w5 hg5 hp5 qk
      clear hg5
      refine (fun hHeld => hK _ _ hHeld ?_) (trivial)
      clear hK
      try simp only [Act.put, List.setIfInBounds_toArray, List.set_cons_zero, List.set_cons_succ]
      replace hKB := hKB.trans qk
      replace hbx := hbx.keep0 qk
      replace hb2 := hb2.keep0 qk
      replace hb3 := hb3.keep0 qk
      replace hp1 := hp1.keep0 qk
      refine onlyL (i := 2) rfl (by kernel_rfl) (fun K hK => ?_)
      go_simp
      refine (refMac_walk (cap := 32) (hbx.row8 hz.2 hz.1 (by omega)) (m := 1) (cm := 1) (Blk.row8 (T := 5) (l := [2]) (n := 1) hp1 (fun x hx => by rw [List.mem_singleton.1 hx]; decide) rfl (by omega)) (fun h => by cases h) (by omega) (by omega)).mono ?_
      rintro e w3 ⟨rfl, qk⟩
      rw [show macL z [2] = stepChain z from rfl]
      refine (fun hHeld => hK _ _ hHeld ?_) (trivial)
      clear hK
      try simp only [Act.put, List.setIfInBounds_toArray, List.set_cons_zero, List.set_cons_succ]
      replace hKB := hKB.trans qk
      replace hbx := hbx.keep0 qk
      replace hb2 := hb2.keep0 qk
      replace hb3 := hb3.keep0 qk
      replace hp5 := hp5.keep0 qk
      refine onlyL (i := 5) rfl (by kernel_rfl) (fun K hK => ?_)
      go_simp
      refine (refMac_walk (cap := 32) (hbx.row8 hz.2 hz.1 (by omega)) (m := 1) (cm := 1) (Blk.row8 (T := 5) (l := [1]) (n := 1) hp5 (fun x hx => by rw [List.mem_singleton.1 hx]; decide) rfl (by omega)) (fun h => by cases h) (by omega) (by omega)).mono ?_
      rintro e w7 ⟨rfl, qk⟩
      rw [show macL z [1] = stepKey z from rfl]
      refine (fun hHeld => hK _ _ hHeld ?_) (trivial)
      clear hK
      try simp only [Act.put, List.setIfInBounds_toArray, List.set_cons_zero, List.set_cons_succ]
      replace hb2 := hb2.keep0 qk
      replace hb3 := hb3.keep0 qk
      replace hKB := hKB.trans qk
      replace hbx := hbx.keep0 qk
      refine onlyL (i := 6) rfl (by kernel_rfl) (fun K hK => ?_)
      refine step_store rfl 23 _ _ rfl r2 rfl (byteV (stepChain z)) rfl hb2 (by rw [hcl.1, HZ.out]) (by rw [hcl.1]; exact Tryd.infoK) (byteV_one _) ?_
      intro w8 hb8 hk8 hs8
      have hb38 := hb3.keep hk8 (fun e => by have e' : r3 = r2 := e; omega)
      have hKB8 := hKB.step hk8 (fun i hi => .inr (by rw [show i = r2 from hi]; exact hr2))
      refine (fun hHeld => hK _ _ hHeld ?_) (trivial)
      clear hK
      try simp only [Act.put, List.setIfInBounds_toArray, List.set_cons_zero, List.set_cons_succ]
      refine onlyL (i := 7) rfl (by kernel_rfl) (fun K hK => ?_)
      refine step_store rfl 23 _ _ rfl r3 rfl (byteV (stepKey z)) rfl hb38 (by rw [hcl.2, HZ.out]) (by rw [hcl.2]; exact Tryd.infoK) (byteV_one _) ?_
      intro w9 hb9 hk9 hs9
      have hb29 := hb8.keep hk9 (fun e => by have e' : r2 = r3 := e; omega)
      have hKB9 := hKB8.step hk9 (fun i hi => .inr (by rw [show i = r3 from hi]; omega))
      refine (fun hHeld => hK _ _ hHeld ?_) (trivial)
      clear hK
      try simp only [Act.put, List.setIfInBounds_toArray, List.set_cons_zero, List.set_cons_succ]
      refine wpAnyH_done (by kernel_rfl) ?_ _
      go_wp2_with fail
      exact ret_blk2 Tryd.results28 r2 r3 rfl rfl hb29 hb9 _ Tryd.undK rfl (by rw [hcl.1]; exact Tryd.infoK) (by rw [hcl.2]; exact Tryd.infoK) rfl ⟨rfl, hKB9⟩
  · skip
    refine step_bsK rfl _ 5 1 _ rfl [.int .u8 1] Tryd.underlying27 Tryd.bs8 rfl (by decide) (by decide) (by simp [Act.eval]) (by simp [Value.cells]) ?_
    intro g5 w5 hg5 hp5 qk
    clear hg5
    refine (fun hHeld => hK _ _ hHeld ?_) (trivial)
    clear hK
    try simp only [Act.put, List.setIfInBounds_toArray, List.set_cons_zero, List.set_cons_succ]
    replace hKB := hKB.trans qk
    replace hbx := hbx.keep0 qk
    replace hb2 := hb2.keep0 qk
    replace hb3 := hb3.keep0 qk
    refine onlyL (i := 1) rfl (by kernel_rfl) (fun K hK => ?_)
    refine step_bsK rfl _ 5 1 _ rfl [.int .u8 2] Tryd.underlying27 Tryd.bs8 rfl (by decide) (by decide) (by simp [Act.eval]) (by simp [Value.cells]) ?_
    intro g1 w1 hg1 hp1 qk
    clear hg1
    refine (fun hHeld => hK _ _ hHeld ?_) (trivial)
    clear hK
    try simp only [Act.put, List.setIfInBounds_toArray, List.set_cons_zero, List.set_cons_succ]
    replace hKB := hKB.trans qk
    replace hbx := hbx.keep0 qk
    replace hb2 := hb2.keep0 qk
    replace hb3 := hb3.keep0 qk
    replace hp5 := hp5.keep0 qk
    refine onlyL (i := 2) rfl (by kernel_rfl) (fun K hK => ?_)
    go_simp
    refine (refMac_walk (cap := 32) (hbx.row8 hz.2 hz.1 (by omega)) (m := 1) (cm := 1) (Blk.row8 (T := 5) (l := [2]) (n := 1) hp1 (fun x hx => by rw [List.mem_singleton.1 hx]; decide) rfl (by omega)) (fun h => by cases h) (by omega) (by omega)).mono ?_
    rintro e w3 ⟨rfl, qk⟩
    rw [show macL z [2] = stepChain z from rfl]
    refine (fun hHeld => hK _ _ hHeld ?_) (trivial)
    clear hK
    try simp only [Act.put, List.setIfInBounds_toArray, List.set_cons_zero, List.set_cons_succ]
    replace hKB := hKB.trans qk
    replace hbx := hbx.keep0 qk
    replace hb2 := hb2.keep0 qk
    replace hb3 := hb3.keep0 qk
    replace hp5 := hp5.keep0 qk
    refine onlyL (i := 5) rfl (by kernel_rfl) (fun K hK => ?_)
    go_simp
    refine (refMac_walk (cap := 32) (hbx.row8 hz.2 hz.1 (by omega)) (m := 1) (cm := 1) (Blk.row8 (T := 5) (l := [1]) (n := 1) hp5 (fun x hx => by rw [List.mem_singleton.1 hx]; decide) rfl (by omega)) (fun h => by cases h) (by omega) (by omega)).mono ?_
    rintro e w7 ⟨rfl, qk⟩
    rw [show macL z [1] = stepKey z from rfl]
    refine (fun hHeld => hK _ _ hHeld ?_) (trivial)
    clear hK
    try simp only [Act.put, List.setIfInBounds_toArray, List.set_cons_zero, List.set_cons_succ]
    replace hb2 := hb2.keep0 qk
    replace hb3 := hb3.keep0 qk
    replace hKB := hKB.trans qk
    replace hbx := hbx.keep0 qk
    refine onlyL (i := 6) rfl (by kernel_rfl) (fun K hK => ?_)
    refine step_store rfl 23 _ _ rfl r2 rfl (byteV (stepChain z)) rfl hb2 (by rw [hcl.1, HZ.out]) (by rw [hcl.1]; exact Tryd.infoK) (byteV_one _) ?_
    intro w8 hb8 hk8 hs8
    have hb38 := hb3.keep hk8 (fun e => by have e' : r3 = r2 := e; omega)
    have hKB8 := hKB.step hk8 (fun i hi => .inr (by rw [show i = r2 from hi]; exact hr2))
    refine (fun hHeld => hK _ _ hHeld ?_) (trivial)
    clear hK
    try simp only [Act.put, List.setIfInBounds_toArray, List.set_cons_zero, List.set_cons_succ]
    refine onlyL (i := 7) rfl (by kernel_rfl) (fun K hK => ?_)
    refine step_store rfl 23 _ _ rfl r3 rfl (byteV (stepKey z)) rfl hb38 (by rw [hcl.2, HZ.out]) (by rw [hcl.2]; exact Tryd.infoK) (byteV_one _) ?_
    intro w9 hb9 hk9 hs9
    have hb29 := hb8.keep hk9 (fun e => by have e' : r2 = r3 := e; omega)
    have hKB9 := hKB8.step hk9 (fun i hi => .inr (by rw [show i = r3 from hi]; omega))
    refine (fun hHeld => hK _ _ hHeld ?_) (trivial)
    clear hK
    try simp only [Act.put, List.setIfInBounds_toArray, List.set_cons_zero, List.set_cons_succ]
    refine wpAnyH_done (by kernel_rfl) ?_ _
    go_wp2_with fail
    exact ret_blk2 Tryd.results28 r2 r3 rfl rfl hb29 hb9 _ Tryd.undK rfl (by rw [hcl.1]; exact Tryd.infoK) (by rw [hcl.2]; exact Tryd.infoK) rfl ⟨rfl, hKB9⟩

set_option maxRecDepth 20000 in
set_option maxHeartbeats 3200000 in
theorem refDraw_walk {w : World} {z : List Int} (hz : Key32 z) (n : Int) (hn : 0 ≤ n ∧ n ≤ 4294967295) : Calls Tryd.prog 30 #[keyV z, .int .u32 n] w fun e w' => e = .returned (keyV (drawKey z n)) ∧ Keeps Nil w w' := by
  have hzv := Tryd.zeroK32
  have HZ := Lib.hid (show (byteV z32).length = 32 by rw [byteV_len, z32_len])
  generalize byteV z32 = Z at *
  have hcl : (byteV (drawKey z n)).length = 32 := by rw [byteV_len]; exact macL_len _ _
  obtain ⟨wA, hwA, hbx, hb4, hp1, hkA, hsA⟩ := alloc3 w (byteV z) 23 Z 23 (byteV (le4 n)) 5
  have HC := Lib.hid (refMac_walk (cap := 32) (cm := 4) (hbx.row8 hz.2 hz.1 (by omega)) (hp1.row8 (n := 4) (le4_bytes hn) rfl (by omega)) (fun h => by cases h) (by omega) (by omega))
  rw [show macL z (le4 n) = drawKey z n from rfl] at HC
  have HWA := Lib.hid hwA
  clear hwA
  go_enter Tryd.func30, Tryd.ntmps30
  go_wp2_with fail
  have hwA := HWA.out
  subst hwA
  refine HC.out.mono ?_
  rintro e w3 ⟨rfl, hk3⟩
  have hbB := hb4.keep0 hk3
  have hK3 := hkA.trans hk3
  clear HC hp1 hk3 HWA hsA hbx hb4 hkA
  go_wp2_with (refine wpl_store rfl 23 _ _ rfl (w.heap.size + 1) rfl (byteV (drawKey z n)) rfl hbB (by rw [hcl, HZ.out]) (by rw [hcl]; exact Tryd.infoK) (byteV_one _) ?_)
  intro w4 hb5 hk5 _
  go_wp2_with fail
  refine ret_blk Tryd.results30 (w.heap.size + 1) rfl hb5 _ Tryd.undK rfl (by rw [hcl]; exact Tryd.infoK) rfl ⟨rfl, hK3.step hk5 (fun i hi => .inr (by rw [show i = w.heap.size + 1 from hi]; omega))⟩

/-- A key on its way. -/
def cpUp (l : List Int) (i : Nat) : List Int := l.take i ++ List.replicate (32 - i) 0
theorem cpUp_zero (l : List Int) : cpUp l 0 = z32 := by simp [cpUp, z32]
theorem cpUp_full (l : List Int) (h : l.length = 32) : cpUp l 32 = l := by simp [cpUp, List.take_of_length_le (Nat.le_of_eq h)]
theorem cpUp_len (l : List Int) (i : Nat) (hi : i ≤ 32) (h : l.length = 32) : (cpUp l i).length = 32 := by simp [cpUp]; omega
theorem cpUp_succ (l : List Int) (i : Nat) (hi : i < 32) (h : l.length = 32) : (cpUp l i).set i (l.getD i 0) = cpUp l (i + 1) := by
  unfold cpUp
  rw [List.set_append_right _ _ (by simp; omega), List.length_take, show i - min i l.length = 0 by omega, List.take_succ_eq_append_getElem (by omega)]
  obtain ⟨m, hm⟩ : ∃ m, 32 - i = m + 1 := ⟨32 - i - 1, by omega⟩
  rw [hm, List.replicate_succ, List.set_cons_zero, show 32 - (i + 1) = m by omega, List.append_assoc, List.getD, List.getElem?_eq_getElem (by omega)]
  rfl
def RootGo (g8 g9 : Nat) (X Y : List Int) (w0 : World) (i : Nat) (wr : World) : Prop := Blk wr g8 (byteV (cpUp X i)) 23 ∧ Blk wr g9 (byteV (cpUp Y i)) 23 ∧ Keeps (Two g8 g9) w0 wr
theorem RootGo.next {g8 g9 : Nat} {X Y : List Int} {w0 wr : World} {i : Nat} (h : RootGo g8 g9 X Y w0 i wr) (hX : X.length = 32) (hY : Y.length = 32) (hi : i < 32) (hne : g8 ≠ g9) :
    RootGo g8 g9 X Y w0 (i + 1) ((wr.setCell ⟨g8, i, none⟩ (.int .u8 (X.getD i 0))).setCell ⟨g9, i, none⟩ (.int .u8 (Y.getD i 0))) := by
  obtain ⟨h1, h2, hk⟩ := h
  have e1 := h1.set i (.int .u8 (X.getD i 0))
  rw [← byteV_setS, cpUp_succ _ _ hi hX] at e1
  have e2 := (h2.far (p := ⟨g8, i, none⟩) (fun e => hne e.symm) (.int .u8 (X.getD i 0))).set i (.int .u8 (Y.getD i 0))
  rw [← byteV_setS, cpUp_succ _ _ hi hY] at e2
  exact ⟨e1.far (fun e => hne e) _, e2, (hk.setCell (p := ⟨g8, i, none⟩) (.inl (.inl rfl)) _).setCell (p := ⟨g9, i, none⟩) (.inl (.inr rfl)) _⟩
set_option maxRecDepth 20000 in
set_option maxHeartbeats 3200000 in
theorem refRoot_walk {w : World} {z y : List Int} (hz : Key32 z) (hy : Key32 y) : Calls Tryd.prog 26 #[keyV z, keyV y] w (TwoPost w (rootA z y) (rootB z y)) := by
  have hzv := Tryd.zeroK32
  have HZ := Lib.hid (show (byteV z32).length = 32 by rw [byteV_len, z32_len])
  generalize hZZ : byteV z32 = Z at *
  have HZE := Lib.hid hZZ
  clear hZZ
  obtain ⟨wA, hwA, hbx, hby, hb4, hb5, hkA, hsA⟩ := alloc4 w (byteV z) 23 (byteV y) 23 Z 23 Z 23
  have HWA := Lib.hid hwA
  clear hwA
  go_enter Tryd.func26, Tryd.ntmps26
  go_wp2_with fail
  rw [← HWA.out]
  clear HWA
  refine wp_region_held_drew (S := fun _ => True) (by kernel_rfl) trivial (fun hHeld => ?_)
  have hKB : Keeps Nil w wA.drew := hkA.drew
  replace hbx := hbx.drew
  replace hby := hby.drew
  replace hb4 := hb4.drew
  replace hb5 := hb5.drew
  generalize wA.drew = v0 at *
  refine takeL (i := 0) (v := _) rfl (by kernel_rfl) (by kernel_rfl) (by kernel_rfl) (fun _ _ _ h => h) (Or.inl ⟨by rfl, by intro w hSw; (try dsimp only at hSw); go_simp; try with_reducible rfl⟩) (by assumption) ?_
  try simp only [Act.put, List.setIfInBounds_toArray, List.set_cons_zero, List.set_cons_succ]
  refine takeL (i := 1) (v := _) rfl (by kernel_rfl) (by kernel_rfl) (by kernel_rfl) (fun _ _ _ h => h) (Or.inl ⟨by rfl, by intro w hSw; (try dsimp only at hSw); go_simp; try with_reducible rfl⟩) (by assumption) ?_
  try simp only [Act.put, List.setIfInBounds_toArray, List.set_cons_zero, List.set_cons_succ]
  refine onlyL (i := 2) rfl (by kernel_rfl) (fun K hK => ?_)
  refine step_bsK rfl _ 5 12 _ rfl (byteV txtRoot) Tryd.underlying27 Tryd.bs8 rfl (by decide) (by decide) (by simp [Act.eval, byteV, txtRoot]) (by simp [Value.cells, byteV, txtRoot]) ?_
  intro g2 w2 hg2 hb2 qk
  refine (fun hHeld => hK _ _ hHeld ?_) (trivial)
  clear hK
  try simp only [Act.put, List.setIfInBounds_toArray, List.set_cons_zero, List.set_cons_succ]
  refine onlyL (i := 3) rfl (by kernel_rfl) (fun K hK => ?_)
  refine step_convBB rfl 27 5 _ rfl Tryd.underlying27 Tryd.underlying5 rfl hb2 ?_
  intro w3 hc3 hk3 hg3
  have qk3 : Keeps Nil v0 w3 := qk.step hk3 (fun i hi => .inr (by rw [show i = g2 from hi, hg2]; exact Nat.le_refl _))
  have ht3 : Row .u8 w3 (some ⟨g2, 0, none⟩) 12 txtRoot := ⟨rfl, by omega, fun _ => ⟨g2, 0, rfl, hg3, fun i hi => by rw [Nat.zero_add]; exact hc3 i _ (byteV_at _ _ hi rfl)⟩, by decide⟩
  refine (fun hHeld => hK _ _ hHeld ?_) (trivial)
  clear hK
  try simp only [Act.put, List.setIfInBounds_toArray, List.set_cons_zero, List.set_cons_succ]
  replace hKB := hKB.trans qk3
  replace hbx := hbx.keep0 qk3
  replace hby := hby.keep0 qk3
  replace hb4 := hb4.keep0 qk3
  replace hb5 := hb5.keep0 qk3
  clear hb2 qk qk3 hk3 hc3 hg3 hg2
  refine onlyL (i := 4) rfl (by kernel_rfl) (fun K hK => ?_)
  go_simp
  refine (refDerive_walk (n := 64) (PieceOk.some (c := 32) (hbx.row8 hz.2 hz.1 (by omega))) (PieceOk.some (c := 32) (hby.row8 hy.2 hy.1 (by omega))) (PieceOk.some (c := 12) ht3) (by omega) (by omega) (by omega) (by omega)).mono ?_
  rintro e w4 ⟨ad, cd, rfl, hod, qk, hcd⟩
  refine (fun hHeld => hK _ _ hHeld ?_) (trivial)
  clear hK
  try simp only [Act.put, List.setIfInBounds_toArray, List.set_cons_zero, List.set_cons_succ]
  replace hKB := hKB.trans qk
  replace hb4 := hb4.keep0 qk
  replace hb5 := hb5.keep0 qk
  clear qk hbx hby ht3
  refine takeL (i := 5) (v := _) rfl (by kernel_rfl) (by kernel_rfl) (by kernel_rfl) (fun _ _ _ h => h) (Or.inl ⟨by rfl, by intro w hSw; (try dsimp only at hSw); go_simp; try with_reducible rfl⟩) (by assumption) ?_
  try simp only [Act.put, List.setIfInBounds_toArray, List.set_cons_zero, List.set_cons_succ]
  refine takeL (i := 6) (v := _) rfl (by kernel_rfl) (by kernel_rfl) (by kernel_rfl) (fun _ _ _ h => h) (Or.inl ⟨by rfl, by intro w hSw; (try dsimp only at hSw); go_simp; try with_reducible rfl⟩) (by assumption) ?_
  try simp only [Act.put, List.setIfInBounds_toArray, List.set_cons_zero, List.set_cons_succ]
  refine takeL (i := 7) (v := _) rfl (by kernel_rfl) (by kernel_rfl) (by kernel_rfl) (fun _ _ _ h => h) (Or.inl ⟨by rfl, by intro w hSw; (try dsimp only at hSw); go_simp; try with_reducible rfl⟩) (by assumption) ?_
  try simp only [Act.put, List.setIfInBounds_toArray, List.set_cons_zero, List.set_cons_succ]
  refine takeL (i := 8) (v := _) rfl (by kernel_rfl) (by kernel_rfl) (by kernel_rfl) (fun _ _ _ h => h) (Or.inl ⟨by rfl, by intro w hSw; (try dsimp only at hSw); go_simp; try with_reducible rfl⟩) (by assumption) ?_
  try simp only [Act.put, List.setIfInBounds_toArray, List.set_cons_zero, List.set_cons_succ]
  refine takeL (i := 9) (v := _) rfl (by kernel_rfl) (by kernel_rfl) (by kernel_rfl) (fun _ _ _ h => h) (Or.inl ⟨by rfl, by intro w hSw; (try dsimp only at hSw); go_simp; try with_reducible rfl⟩) (by assumption) ?_
  try simp only [Act.put, List.setIfInBounds_toArray, List.set_cons_zero, List.set_cons_succ]
  refine wpAnyH_done (by kernel_rfl) ?_ _
  have hdl := deriveL_len z y txtRoot 64
  have hA : (rootA z y).length = 32 := by unfold rootA; rw [List.length_take, hdl]; rfl
  have hB : (rootB z y).length = 32 := by unfold rootB; rw [List.length_drop, hdl]
  have hAB : deriveL z y txtRoot 64 = rootA z y ++ rootB z y := (List.take_append_drop 32 _).symm
  rw [hAB] at hod
  have HPP := Lib.hid (show TwoPost w (rootA z y) (rootB z y) = TwoPost w (rootA z y) (rootB z y) from rfl)
  clear hAB hdl HPP
  generalize rootA z y = X at *
  generalize rootB z y = Y at *
  have hb8 := (Blk.new w4 Z 23).alloc (.cells Z.toArray 23)
  have hs8 : (w4.alloc (.cells Z.toArray 23)).heap.size = w4.heap.size + 1 := size_alloc' _ _
  have hb9 := Blk.new' (w4.alloc (.cells Z.toArray 23)) Z 23 hs8.symm
  have hk89 := ((Keeps.refl Nil w4).alloc (.cells Z.toArray 23)).alloc (.cells Z.toArray 23)
  have hlt5 : w.heap.size + 1 + 1 + 1 < w4.heap.size := hb5.lt
  have hb48 := hb4.keep0 hk89
  have hb58 := hb5.keep0 hk89
  have hK89 := hKB.trans hk89
  obtain ⟨gd, off, rfl, hgd, hcc⟩ := hod.cell (by omega)
  have hcc8 : ∀ i, i < 64 → ((w4.alloc (.cells Z.toArray 23)).alloc (.cells Z.toArray 23)).cell? ⟨gd, off + i, none⟩ = some (.int .u8 ((X ++ Y).getD i 0)) := fun i hi => hk89.cell (hcc i hi) (fun h => h)
  clear hs8 hb4 hb5 hKB hod hk89 hcc
  go_wp2_with fail
  generalize (w4.alloc (.cells Z.toArray 23)).alloc (.cells Z.toArray 23) = w8 at *
  generalize hg8 : w4.heap.size = g8 at *
  have HG := Lib.hid (show RootGo g8 (g8 + 1) X Y w8 0 w8 from ⟨by rw [cpUp_zero, HZE.out]; exact hb8, by rw [cpUp_zero, HZE.out]; exact hb9, Keeps.refl _ _⟩)
  clear hb8 hb9 hg8
  go_loopw [10] (fun v wr => ∃ i : Nat, i ≤ 32 ∧ v = .int .i64 i ∧ Hid (RootGo g8 (g8 + 1) X Y w8 i wr)) (fun v _ => 32 - (intOf v).toNat)
  case atStart => exact ⟨0, by omega, rfl, HG.out⟩
  case round =>
    obtain ⟨i, hi, rfl, hGo⟩ := hrel
    clear HG
    obtain ⟨hX, hY, hkr⟩ := hGo.out
    by_cases hi32 : i < 32
    · have hN := hGo.out.next hA hB hi32 (by omega)
      have HN := Lib.hid hN
      have hn1 : ¬ gd = g8 := by omega
      have hn2 : ¬ g8 = gd := by omega
      have hn3 : ¬ gd = g8 + 1 := by omega
      have x1 := hkr.cell (hcc8 i (by omega)) (fun e => by rcases e with e | e <;> omega)
      have x2 := hkr.cell (hcc8 (32 + i) (by omega)) (fun e => by rcases e with e | e <;> omega)
      rw [show (X ++ Y).getD i 0 = X.getD i 0 by simp only [List.getD]; rw [List.getElem?_append_left (by omega)]] at x1
      rw [show (X ++ Y).getD (32 + i) 0 = Y.getD i 0 by simp only [List.getD]; rw [List.getElem?_append_right (by omega), hA, Nat.add_sub_cancel_left]] at x2
      have y1 := hX.cell i (byteV_at _ i (by rw [cpUp_len _ _ hi hA]; exact hi32) rfl)
      have y2 := hY.cell i (byteV_at _ i (by rw [cpUp_len _ _ hi hB]; exact hi32) rfl)
      have z1 := hX.frozen i
      have z2 := hY.frozen i
      have hi0 : (0 : Int) ≤ i := by omega
      have hi1 : (i : Int) < 32 := by omega
      have hi2 : (32 : Int) + (i : Int) < 64 := by omega
      clear hN hX hY
      generalize X.getD i 0 = xx at *
      generalize Y.getD i 0 = yy at *
      generalize (cpUp X i).getD i 0 = oo at *
      generalize (cpUp Y i).getD i 0 = pp at *
      go_wp2_with fail
      exact ⟨⟨i + 1, by omega, by go_num, HN.out⟩, by simp [intOf]; omega⟩
    · obtain rfl : i = 32 := by omega
      rw [cpUp_full _ hA] at hX
      rw [cpUp_full _ hB] at hY
      have hb4r := hb48.keep hkr (fun e => by rcases e with e | e <;> omega)
      have hb5r := hb58.keep hkr (fun e => by rcases e with e | e <;> omega)
      have hKr : Keeps Nil w wr := hK89.step hkr (fun i hi => .inr (by rcases hi with e | e <;> (have := hK89.size; omega)))
      have hAv : (byteV X).length = 32 := by rw [byteV_len, hA]
      have hBv : (byteV Y).length = 32 := by rw [byteV_len, hB]
      have hoA := byteV_one X
      have hoB := byteV_one Y
      have hUK := Tryd.undK
      have hIA : (Tryd.prog.info? 23).map (·.size) = some (byteV X).length := by rw [hAv]; exact Tryd.infoK
      have hIB : (Tryd.prog.info? 23).map (·.size) = some (byteV Y).length := by rw [hBv]; exact Tryd.infoK
      have hr1 : wr.drew.rangeAt g8 0 (byteV X) := hX.range0
      have hr2 : wr.drew.rangeAt (g8 + 1) 0 (byteV Y) := hY.range0
      clear hGo hkr hX hY hK89 hb48 hb58 hcc8
      go_wp2_with fail
      refine wp_region_held_drew (S := fun w' => w'.rangeAt g8 0 (byteV X) ∧ w'.rangeAt (g8 + 1) 0 (byteV Y)) (by kernel_rfl) ⟨hr1, hr2⟩ (fun hHeld => ?_)
      replace hKr := hKr.drew
      replace hb4r := hb4r.drew
      replace hb5r := hb5r.drew
      generalize wr.drew = v4 at *
      refine takeL (i := 0) (v := _) rfl (by kernel_rfl) (by kernel_rfl) (by kernel_rfl) (fun _ _ _ h => h) (yieldsIf_load_mid (by rfl) 23 _ rfl g8 0 rfl (byteV X) _ (fun w hSw => hSw.1) hUK rfl hIA) (by assumption) ?_
      try simp only [Act.put, List.setIfInBounds_toArray, List.set_cons_zero, List.set_cons_succ]
      refine takeL (i := 1) (v := _) rfl (by kernel_rfl) (by kernel_rfl) (by kernel_rfl) (fun _ _ _ h => h) (yieldsIf_load_mid (by rfl) 23 _ rfl (g8+1) 0 rfl (byteV Y) _ (fun w hSw => hSw.2) hUK rfl hIB) (by assumption) ?_
      try simp only [Act.put, List.setIfInBounds_toArray, List.set_cons_zero, List.set_cons_succ]
      refine onlyL (i := 2) rfl (by kernel_rfl) (fun K hK => ?_)
      refine step_store rfl 23 _ _ rfl (w.heap.size + 1 + 1) rfl (byteV X) rfl hb4r (by rw [hAv, HZ.out]) hIA hoA ?_
      intro w8 hb8 hk8 hs8
      have hb58 := hb5r.keep hk8 (fun e => by have e' : w.heap.size + 1 + 1 + 1 = w.heap.size + 1 + 1 := e; omega)
      have hKB8 := hKr.step hk8 (fun i hi => .inr (by rw [show i = w.heap.size + 1 + 1 from hi]; omega))
      have hkr8 : ∀ g o (L : List Value), w.heap.size + 1 + 1 + 1 < g → v4.rangeAt g o L → w8.rangeAt g o L := fun g o L hg h j v hv => hk8.cell (h j v hv) (fun e => by have e' : g = w.heap.size + 1 + 1 := e; omega)
      refine (fun hHeld => hK _ _ hHeld ?_) (⟨hkr8 _ _ _ (by omega) hr1, hkr8 _ _ _ (by omega) hr2⟩)
      clear hK
      try simp only [Act.put, List.setIfInBounds_toArray, List.set_cons_zero, List.set_cons_succ]
      refine onlyL (i := 3) rfl (by kernel_rfl) (fun K hK => ?_)
      refine step_store rfl 23 _ _ rfl (w.heap.size + 1 + 1 + 1) rfl (byteV Y) rfl hb58 (by rw [hBv, HZ.out]) hIB hoB ?_
      intro w9 hb9 hk9 hs9
      have hb49 := hb8.keep hk9 (fun e => by have e' : w.heap.size + 1 + 1 = w.heap.size + 1 + 1 + 1 := e; omega)
      have hKB9 := hKB8.step hk9 (fun i hi => .inr (by rw [show i = w.heap.size + 1 + 1 + 1 from hi]; omega))
      have hkr9 : ∀ g o (L : List Value), w.heap.size + 1 + 1 + 1 < g → w8.rangeAt g o L → w9.rangeAt g o L := fun g o L hg h j v hv => hk9.cell (h j v hv) (fun e => by have e' : g = w.heap.size + 1 + 1 + 1 := e; omega)
      refine (fun hHeld => hK _ _ hHeld ?_) (⟨hkr9 _ _ _ (by omega) (hkr8 _ _ _ (by omega) hr1), hkr9 _ _ _ (by omega) (hkr8 _ _ _ (by omega) hr2)⟩)
      clear hK
      try simp only [Act.put, List.setIfInBounds_toArray, List.set_cons_zero, List.set_cons_succ]
      refine wpAnyH_done (by kernel_rfl) ?_ _
      go_wp2_with fail
      exact ret_blk2 Tryd.results26 (w.heap.size + 1 + 1) (w.heap.size + 1 + 1 + 1) rfl rfl hb49 hb9 _ Tryd.undK rfl hIA hIB rfl ⟨rfl, hKB9⟩
end Go.Proofs.YtnkahfpinkgimaaDoor
