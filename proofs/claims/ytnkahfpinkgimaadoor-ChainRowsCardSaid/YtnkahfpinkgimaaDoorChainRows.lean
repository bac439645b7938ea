/-
  The law ChainRows.
-/
import Derived.Test.YtnkahfpinkgimaaDoorChainFirst
import Derived.Test.YtnkahfpinkgimaaDoorRefMac
import Derived.Test.YtnkahfpinkgimaaDoorKeyOpen
namespace Go.Proofs.YtnkahfpinkgimaaDoor
open Go.RowKit

theorem Tryd.eqgH : Tryd.prog.eqGuardType Tryd.prog.depth 36 = false := by kernel_rfl
theorem Tryd.guardH (op : BinOp) (x y : Operand) (xs ys : Array Value) (w : World) : (eqGuard op 36 x y (.agg xs) (.agg ys)).run Tryd.prog w = .ok () w := run_eqGuard_agg w op _ x y xs ys Tryd.eqgH
theorem Tryd.neqHsame {l : List Int} (hl : Key32 l) (w : World) : (binOp .neq 36 (.agg (byteV l).toArray) (.agg (byteV l).toArray)).run Tryd.prog w = .ok (.bool false) w := by
  have := Tryd.neqDig hl.1 hl.1 hl.2 hl.2 w
  simpa using this
theorem le4_small {i : Nat} (h : i < 256) : le4 (i : Int) = [(i : Int), 0, 0, 0] := by
  unfold le4
  rw [show (i : Int) % 256 = i by omega, show (i : Int) / 256 % 256 = 0 by omega, show (i : Int) / 65536 % 256 = 0 by omega, show (i : Int) / 16777216 = 0 by omega]
/-- What the loop holds. -/
structure RowsGo (wB : World) (gc r0 : Nat) (seed z : List Int) (wr : World) : Prop where
  key : Key32 z
  cell : Blk wr gc (byteV z) 23
  seed : Blk wr r0 (byteV seed) 23
  keep : Keeps (One gc) wB wr
set_option maxRecDepth 20000 in
set_option maxHeartbeats 6400000 in
theorem chainRows_walk (seed : List Int) (a1 : Int) (w : World) (ws : seed.length = 32 ∧ AreB seed) (w1 : (Lit.int .i64 a1).wf = true) :
    Calls Tryd.prog 11 #[.agg (byteV seed).toArray, .int .i64 a1] w (TrueS w) := by
  have h1 := i64_wf w1
  have hzv := Tryd.zeroK32
  have HZ := Lib.hid (show (byteV z32).length = 32 by rw [byteV_len, z32_len])
  generalize byteV z32 = Z at *
  have l0 := key_len ws
  have hrem : -20 < a1.tmod 20 ∧ a1.tmod 20 < 20 := ⟨by have := Int.lt_tmod_of_pos a1 (show (0 : Int) < 20 by omega); omega, Int.tmod_lt_of_pos a1 (by omega)⟩
  generalize hM : a1.tmod 20 = M at *
  have HDR := Lib.hid (fun (w : World) (i : Nat) (h : i < 256) => @draw_walk w seed ws (i : Int) (by omega))
  obtain ⟨wA, hwA, hb0, hkA⟩ : ∃ wA, wA = w.alloc (.cells (byteV seed).toArray 23) ∧ Blk wA w.heap.size (byteV seed) 23 ∧ Keeps Nil w wA := ⟨_, rfl, Blk.new w _ _, (Keeps.refl Nil w).alloc _⟩
  have HWA := Lib.hid hwA
  clear hwA
  go_enter Tryd.func11, Tryd.ntmps11
  go_wp2_with fail
  rw [← HWA.out]
  clear HWA
  refine (chainfirst_walk wA).mono ?_
  rintro e w2 ⟨rfl, hk1⟩
  replace hb0 := hb0.keep0 hk1
  have hK1 := hkA.trans hk1
  clear hkA hk1
  have hlt0 := hb0.lt
  generalize hr0 : w.heap.size = r0 at *
  have hb := Blk.new w2 Z 23
  have hka := (Keeps.refl Nil w2).alloc (.cells Z.toArray 23)
  go_wp2_with (first | (refine wpl_load rfl 23 _ rfl r0 rfl hb0 _ Tryd.undK rfl (by rw [l0]; exact Tryd.infoK) ?_) | (refine wpl_store rfl 23 _ _ rfl w2.heap.size rfl (byteV seed) rfl hb (by rw [l0, HZ.out]) (by rw [l0]; exact Tryd.infoK) (byteV_one _) ?_))
  intro wB hbc hkc hsc
  clear hsc
  have hkB : Keeps Nil w2 wB := hka.step hkc (fun i hi => .inr (by rw [show i = w2.heap.size from hi]; exact Nat.le_refl _))
  have hKB := hK1.trans hkB
  replace hb0 := hb0.keep0 hkB
  have hgc : r0 ≤ w2.heap.size := by omega
  have hgcw : w.heap.size ≤ w2.heap.size := hK1.size
  clear hb hka hkc hkB hK1
  generalize w2.heap.size = gc at *
  have HG := Lib.hid (show RowsGo wB gc r0 seed seed wB from ⟨ws, hbc, hb0, Keeps.refl _ _⟩)
  clear hbc hb0
  go_wp2_with fail
  go_loopw [7] (fun v wr => ∃ (i : Nat) (z : List Int), (i : Int) ≤ 22 ∧ v = .int .i64 i ∧ Hid (RowsGo wB gc r0 seed z wr)) (fun v _ => 30 - (intOf v).toNat)
  case atStart => exact ⟨0, seed, by omega, rfl, HG.out⟩
  case round =>
    obtain ⟨i, z, hi, rfl, hGo⟩ := hrel
    clear HG
    have hG := hGo.out
    by_cases him : (i : Int) < M + 2
    · have hi255 : i < 256 := by omega
      have HST := Lib.hid (step_walk (w := wr) hG.key)
      unfold TwoPost at HST
      unfold keyV at HST
      have lz := key_len hG.key
      have hcell := hG.cell
      have HN : (byteV (stepChain z)).length = 32 ∧ ∀ v ∈ byteV (stepChain z), v.oneCell' = true := ⟨key_len (macL_key _ _), byteV_one _⟩
      have HY : (byteV (stepKey z)).length = 32 ∧ ∀ v ∈ byteV (stepKey z), v.oneCell' = true := ⟨key_len (macL_key _ _), byteV_one _⟩
      go_wp2_with (refine wpl_load rfl 23 _ rfl gc rfl hcell _ Tryd.undK rfl (by rw [lz]; exact Tryd.infoK) ?_)
      refine HST.out.mono ?_
      rintro e w3 ⟨rfl, hk3⟩
      clear HST hcell
      -- two values (byteV (stepChain z)), (byteV (stepKey z)) (32 cells each) go into two new variables; the world before is w3
      obtain ⟨wa, hwa, hb1, hb2, hka, hsa⟩ := alloc2 w3 Z 23 Z 23
      subst hwa
      clear hka hsa
      go_wp2_with (first | (refine wpl_store rfl 23 _ _ rfl w3.heap.size rfl (byteV (stepChain z)) rfl hb1 (by rw [HN.1, HZ.out]) (by rw [HN.1]; exact Tryd.infoK) HN.2 ?_))
      intro wb hb3 hk3 hs3
      clear hs3 hb1
      have hb4 := hb2.keep hk3 (fun e => by have e' : w3.heap.size + 1 = w3.heap.size := e; omega)
      clear hb2
      go_wp2_with (refine wpl_store rfl 23 _ _ rfl (w3.heap.size + 1) rfl (byteV (stepKey z)) rfl hb4 (by rw [HY.1, HZ.out]) (by rw [HY.1]; exact Tryd.infoK) HY.2 ?_)
      intro w4 hb6 hk6 hs6
      clear hs6
      have pp := Pair.of hb3 hb6 hk3 hk6
      clear hb3 hk3 hb4 hb6 hk6
      generalize w3.heap.size = gp at *
      have hk34 := hk3.trans pp.keep
      have hG4 : RowsGo wB gc r0 seed z w4 := ⟨hG.key, hG.cell.keep0 hk34, hG.seed.keep0 hk34, hG.keep.step hk34 (fun _ h => h.elim)⟩
      clear hk3 hk34 hGo
      have hG := hG4
      have hUK := Tryd.undK
      have hIN : (Tryd.prog.info? 23).map (·.size) = some (byteV (stepChain z)).length := by rw [HN.1]; exact Tryd.infoK
      have hIY : (Tryd.prog.info? 23).map (·.size) = some (byteV (stepKey z)).length := by rw [HY.1]; exact Tryd.infoK
      have hIS : (Tryd.prog.info? 23).map (·.size) = some (byteV seed).length := by rw [l0]; exact Tryd.infoK
      have hg := fun (V : List Value) (x y : Operand) (w : World) => Tryd.guardH .neq x y V.toArray V.toArray w
      have hqN := fun w => Tryd.neqHsame (macL_key z [2]) w
      have hqY := fun w => Tryd.neqHsame (macL_key z [1]) w
      have hqE := fun w => Tryd.neqHsame (macL_key seed (le4 i)) w
      rw [show macL z [2] = stepChain z from rfl] at hqN
      rw [show macL z [1] = stepKey z from rfl] at hqY
      rw [show macL seed (le4 i) = drawKey seed i from rfl] at hqE
      have HLE := Lib.hid (le4_small hi255)
      have hw8 : IntKind.u8.wrap (i : Int) = i := by rw [IntKind.wrap_u8]; omega
      have hw32 : IntKind.u32.wrap (i : Int) = i := by rw [IntKind.wrap_u32]; omega
      go_wp2_with fail
      refine wp_region_held_drew (S := fun w' => Keeps Nil w4 w') (by kernel_rfl) (Keeps.refl _ _).drew (fun hHeld => ?_)
      have hKB : Keeps Nil w4 w4.drew := (Keeps.refl Nil w4).drew
      generalize w4.drew = v0 at *
      refine takeL (i := 0) (v := _) rfl (by kernel_rfl) (by kernel_rfl) (by kernel_rfl) (fun _ _ _ h => h) (yieldsIf_load_mid (by rfl) 23 _ rfl gp 0 rfl (byteV (stepChain z)) _ (fun w hSw => ((pp.one.keep0 hSw).range0)) hUK rfl hIN) (by assumption) ?_
      try simp only [Act.put, List.setIfInBounds_toArray, List.set_cons_zero, List.set_cons_succ]
      refine takeL (i := 1) (v := _) rfl (by kernel_rfl) (by kernel_rfl) (by kernel_rfl) (fun _ _ _ h => h) (Or.inl ⟨by rfl, by intro w hSw; (try dsimp only at hSw); go_simp; try with_reducible rfl⟩) (by assumption) ?_
      try simp only [Act.put, List.setIfInBounds_toArray, List.set_cons_zero, List.set_cons_succ]
      refine onlyL (i := 2) rfl (by kernel_rfl) (fun K hK => ?_)
      refine step_bsK rfl _ 5 1 _ rfl [.int .u8 2] Tryd.underlying27 Tryd.bs8 rfl (by decide) (by decide) (by simp [Act.eval]) (by simp [Value.cells]) ?_
      intro g2 w5 hg2 hp2 qk
      clear hg2
      replace hKB := hKB.trans qk
      refine (fun hHeld => hK _ _ hHeld ?_) (hKB)
      clear hK
      try simp only [Act.put, List.setIfInBounds_toArray, List.set_cons_zero, List.set_cons_succ]
      refine onlyL (i := 3) rfl (by kernel_rfl) (fun K hK => ?_)
      go_simp
      refine (refMac_walk (cap := 32) ((hG4.cell.keep0 hKB).row8 hG.key.2 hG.key.1 (by omega)) (m := 1) (cm := 1) (Blk.row8 (T := 5) (l := [2]) (n := 1) hp2 (fun x hx => by rw [List.mem_singleton.1 hx]; decide) rfl (by omega)) (fun h => by cases h) (by omega) (by omega)).mono ?_
      rintro e w6 ⟨rfl, qk6⟩
      rw [show macL z [2] = stepChain z from rfl]
      unfold keyV
      replace hKB := hKB.trans qk6
      refine (fun hHeld => hK _ _ hHeld ?_) (hKB)
      clear hK
      try simp only [Act.put, List.setIfInBounds_toArray, List.set_cons_zero, List.set_cons_succ]
      clear hp2 qk qk6
      refine takeL (i := 4) (v := _) rfl (by kernel_rfl) (by kernel_rfl) (by kernel_rfl) (fun _ _ _ h => h) (yieldsIf_bin (by rfl) _ _ _ _ _ rfl _ _ rfl rfl _ hqN (hg (byteV (stepChain z)) _ _)) (by assumption) ?_
      try simp only [Act.put, List.setIfInBounds_toArray, List.set_cons_zero, List.set_cons_succ]
      refine takeL (i := 5) (v := _) rfl (by kernel_rfl) (by kernel_rfl) (by kernel_rfl) (fun _ _ _ h => h) (Or.inl ⟨by rfl, by intro w hSw; (try dsimp only at hSw); go_simp; try with_reducible rfl⟩) (by assumption) ?_
      try simp only [Act.put, List.setIfInBounds_toArray, List.set_cons_zero, List.set_cons_succ]
      refine takeL (i := 6) (v := _) rfl (by kernel_rfl) (by kernel_rfl) (by kernel_rfl) (fun _ _ _ h => h) (yieldsIf_load_mid (by rfl) 23 _ rfl (gp+1) 0 rfl (byteV (stepKey z)) _ (fun w hSw => ((pp.two.keep0 hSw).range0)) hUK rfl hIY) (by assumption) ?_
      try simp only [Act.put, List.setIfInBounds_toArray, List.set_cons_zero, List.set_cons_succ]
      refine takeL (i := 7) (v := _) rfl (by kernel_rfl) (by kernel_rfl) (by kernel_rfl) (fun _ _ _ h => h) (Or.inl ⟨by rfl, by intro w hSw; (try dsimp only at hSw); go_simp; try with_reducible rfl⟩) (by assumption) ?_
      try simp only [Act.put, List.setIfInBounds_toArray, List.set_cons_zero, List.set_cons_succ]
      refine onlyL (i := 8) rfl (by kernel_rfl) (fun K hK => ?_)
      refine step_bsK rfl _ 5 1 _ rfl [.int .u8 1] Tryd.underlying27 Tryd.bs8 rfl (by decide) (by decide) (by simp [Act.eval]) (by simp [Value.cells]) ?_
      intro g8 w8 hg8 hp8 qk
      clear hg8
      replace hKB := hKB.trans qk
      refine (fun hHeld => hK _ _ hHeld ?_) (hKB)
      clear hK
      try simp only [Act.put, List.setIfInBounds_toArray, List.set_cons_zero, List.set_cons_succ]
      refine onlyL (i := 9) rfl (by kernel_rfl) (fun K hK => ?_)
      go_simp
      refine (refMac_walk (cap := 32) ((hG4.cell.keep0 hKB).row8 hG.key.2 hG.key.1 (by omega)) (m := 1) (cm := 1) (Blk.row8 (T := 5) (l := [1]) (n := 1) hp8 (fun x hx => by rw [List.mem_singleton.1 hx]; decide) rfl (by omega)) (fun h => by cases h) (by omega) (by omega)).mono ?_
      rintro e w9 ⟨rfl, qk9⟩
      rw [show macL z [1] = stepKey z from rfl]
      unfold keyV
      replace hKB := hKB.trans qk9
      refine (fun hHeld => hK _ _ hHeld ?_) (hKB)
      clear hK
      try simp only [Act.put, List.setIfInBounds_toArray, List.set_cons_zero, List.set_cons_succ]
      clear hp8 qk qk9
      refine takeL (i := 10) (v := _) rfl (by kernel_rfl) (by kernel_rfl) (by kernel_rfl) (fun _ _ _ h => h) (yieldsIf_bin (by rfl) _ _ _ _ _ rfl _ _ rfl rfl _ hqY (hg (byteV (stepKey z)) _ _)) (by assumption) ?_
      try simp only [Act.put, List.setIfInBounds_toArray, List.set_cons_zero, List.set_cons_succ]
      refine takeL (i := 11) (v := _) rfl (by kernel_rfl) (by kernel_rfl) (by kernel_rfl) (fun _ _ _ h => h) (Or.inl ⟨by rfl, by intro w hSw; (try dsimp only at hSw); go_simp; try with_reducible rfl⟩) (by assumption) ?_
      try simp only [Act.put, List.setIfInBounds_toArray, List.set_cons_zero, List.set_cons_succ]
      refine takeL (i := 12) (v := _) rfl (by kernel_rfl) (by kernel_rfl) (by kernel_rfl) (fun _ _ _ h => h) (Or.inl ⟨by rfl, by intro w hSw; (try dsimp only at hSw); go_simp; try with_reducible rfl⟩) (by assumption) ?_
      try simp only [Act.put, List.setIfInBounds_toArray, List.set_cons_zero, List.set_cons_succ]
      refine takeL (i := 13) (v := _) rfl (by kernel_rfl) (by kernel_rfl) (by kernel_rfl) (fun _ _ _ h => h) (yieldsIf_load_mid (by rfl) 23 _ rfl r0 0 rfl (byteV seed) _ (fun w hSw => ((hG4.seed.keep0 hSw).range0)) hUK rfl hIS) (by assumption) ?_
      try simp only [Act.put, List.setIfInBounds_toArray, List.set_cons_zero, List.set_cons_succ]
      refine takeL (i := 14) (v := _) rfl (by kernel_rfl) (by kernel_rfl) (by kernel_rfl) (fun _ _ _ h => h) (Or.inl ⟨by rfl, by intro w hSw; (try dsimp only at hSw); go_simp; try with_reducible rfl⟩) (by assumption) ?_
      try simp only [Act.put, List.setIfInBounds_toArray, List.set_cons_zero, List.set_cons_succ]
      refine takeL (i := 15) (v := _) rfl (by kernel_rfl) (by kernel_rfl) (by kernel_rfl) (fun _ _ _ h => h) (Or.inl ⟨by rfl, by intro w hSw; (try dsimp only at hSw); go_simp; try with_reducible rfl⟩) (by assumption) ?_
      try simp only [Act.put, List.setIfInBounds_toArray, List.set_cons_zero, List.set_cons_succ]
      refine takeL (i := 17) (v := _) rfl (by kernel_rfl) (by kernel_rfl) (by kernel_rfl) (fun _ _ _ h => h) (Or.inl ⟨by rfl, by intro w hSw; (try dsimp only at hSw); go_simp; try with_reducible rfl⟩) (by assumption) ?_
      try simp only [Act.put, List.setIfInBounds_toArray, List.set_cons_zero, List.set_cons_succ]
      refine takeL (i := 18) (v := _) rfl (by kernel_rfl) (by kernel_rfl) (by kernel_rfl) (fun _ _ _ h => h) (Or.inl ⟨by rfl, by intro w hSw; (try dsimp only at hSw); go_simp; try with_reducible rfl⟩) (by assumption) ?_
      try simp only [Act.put, List.setIfInBounds_toArray, List.set_cons_zero, List.set_cons_succ]
      refine takeL (i := 19) (v := _) rfl (by kernel_rfl) (by kernel_rfl) (by kernel_rfl) (fun _ _ _ h => h) (Or.inl ⟨by rfl, by intro w hSw; (try dsimp only at hSw); go_simp; try with_reducible rfl⟩) (by assumption) ?_
      try simp only [Act.put, List.setIfInBounds_toArray, List.set_cons_zero, List.set_cons_succ]
      clear hw8 hw32
      refine bothL (i := 16) (j := 20) rfl rfl (by kernel_rfl) (fun K hK => ?_) (fun K hK => ?_)
      · skip
        go_simp
        refine (HDR.out _ _ hi255).mono ?_
        rintro e w16 ⟨rfl, qk⟩
        unfold keyV
        refine (fun hHeld => hK _ _ hHeld ?_) (hKB.trans qk)
        clear hK
        try simp only [Act.put, List.setIfInBounds_toArray, List.set_cons_zero, List.set_cons_succ]
        replace hKB := hKB.trans qk
        refine onlyL (i := 20) rfl (by kernel_rfl) (fun K hK => ?_)
        refine step_bsK rfl _ 5 4 _ rfl [.int .u8 i, .int .u8 0, .int .u8 0, .int .u8 0] Tryd.underlying27 Tryd.bs8 rfl (by decide) (by decide) (by simp [Act.eval]) (by simp [Value.cells]) ?_
        intro g20 w20 hg20 h20 qk
        clear hg20
        refine (fun hHeld => hK _ _ hHeld ?_) (hKB.trans qk)
        clear hK
        try simp only [Act.put, List.setIfInBounds_toArray, List.set_cons_zero, List.set_cons_succ]
        replace hKB := hKB.trans qk
        refine onlyL (i := 21) rfl (by kernel_rfl) (fun K hK => ?_)
        go_simp
        refine (refMac_walk (cap := 32) ((hG.seed.keep0 hKB).row8 ws.2 ws.1 (by omega)) (m := 4) (cm := 4) (Blk.row8 (T := 5) (l := [(i : Int), 0, 0, 0]) (n := 4) h20 (by intro x hx; simp at hx; omega) rfl (by omega)) (fun h => by cases h) (by omega) (by omega)).mono ?_
        rintro e w21 ⟨rfl, qk⟩
        rw [← HLE.out, show macL seed (le4 i) = drawKey seed i from rfl]
        unfold keyV
        replace hKB := hKB.trans qk
        refine (fun hHeld => hK _ _ hHeld ?_) (hKB)
        clear hK
        try simp only [Act.put, List.setIfInBounds_toArray, List.set_cons_zero, List.set_cons_succ]
        refine takeL (i := 22) (v := _) rfl (by kernel_rfl) (by kernel_rfl) (by kernel_rfl) (fun _ _ _ h => h) (yieldsIf_bin (by rfl) _ _ _ _ _ rfl _ _ rfl rfl _ hqE (hg (byteV (drawKey seed i)) _ _)) (by assumption) ?_
        try simp only [Act.put, List.setIfInBounds_toArray, List.set_cons_zero, List.set_cons_succ]
        refine takeL (i := 23) (v := _) rfl (by kernel_rfl) (by kernel_rfl) (by kernel_rfl) (fun _ _ _ h => h) (Or.inl ⟨by rfl, by intro w hSw; (try dsimp only at hSw); go_simp; try with_reducible rfl⟩) (by assumption) ?_
        try simp only [Act.put, List.setIfInBounds_toArray, List.set_cons_zero, List.set_cons_succ]
        refine wpAnyH_done (by kernel_rfl) ?_ _
        have hbn := pp.one.keep0 hKB
        have hbc := hG4.cell.keep0 hKB
        have hbs := hG4.seed.keep0 hKB
        have hKr := hG4.keep.step hKB (fun _ h => h.elim)
        clear hG4 hKB pp hHeld
        go_wp2_with (first | (refine wpl_load rfl 23 _ rfl gp rfl hbn _ Tryd.undK rfl (by rw [HN.1]; exact Tryd.infoK) ?_) | (refine wpl_store rfl 23 _ _ rfl gc rfl (byteV (stepChain z)) rfl hbc (by rw [HN.1, lz]) (by rw [HN.1]; exact Tryd.infoK) HN.2 ?_))
        intro w30 hbc30 hk30 _
        have hG30 : RowsGo wB gc r0 seed (stepChain z) w30 := ⟨macL_key z [2], hbc30, hbs.keep hk30 (fun e => by have e' : r0 = gc := e; omega), hKr.trans hk30⟩
        clear hbn hbc hbs hKr hbc30 hk30
        go_wp2_with fail
        go_roundw
        case rel => first | exact ⟨i + 1, _, by omega, by go_num, hG30⟩ | ((repeat apply Exists.intro); exact ⟨⟨i + 1, _, by omega, by go_num, hG30⟩, rfl⟩)
        case measure => simp [intOf]; omega
      · skip
        refine step_bsK rfl _ 5 4 _ rfl [.int .u8 i, .int .u8 0, .int .u8 0, .int .u8 0] Tryd.underlying27 Tryd.bs8 rfl (by decide) (by decide) (by simp [Act.eval]) (by simp [Value.cells]) ?_
        intro g20 w20 hg20 h20 qk
        clear hg20
        refine (fun hHeld => hK _ _ hHeld ?_) (hKB.trans qk)
        clear hK
        try simp only [Act.put, List.setIfInBounds_toArray, List.set_cons_zero, List.set_cons_succ]
        replace hKB := hKB.trans qk
        refine onlyL (i := 16) rfl (by kernel_rfl) (fun K hK => ?_)
        go_simp
        refine (HDR.out _ _ hi255).mono ?_
        rintro e w16 ⟨rfl, qk⟩
        unfold keyV
        refine (fun hHeld => hK _ _ hHeld ?_) (hKB.trans qk)
        clear hK
        try simp only [Act.put, List.setIfInBounds_toArray, List.set_cons_zero, List.set_cons_succ]
        replace hKB := hKB.trans qk
        replace h20 := h20.keep0 qk
        refine onlyL (i := 21) rfl (by kernel_rfl) (fun K hK => ?_)
        go_simp
        refine (refMac_walk (cap := 32) ((hG.seed.keep0 hKB).row8 ws.2 ws.1 (by omega)) (m := 4) (cm := 4) (Blk.row8 (T := 5) (l := [(i : Int), 0, 0, 0]) (n := 4) h20 (by intro x hx; simp at hx; omega) rfl (by omega)) (fun h => by cases h) (by omega) (by omega)).mono ?_
        rintro e w21 ⟨rfl, qk⟩
        rw [← HLE.out, show macL seed (le4 i) = drawKey seed i from rfl]
        unfold keyV
        replace hKB := hKB.trans qk
        refine (fun hHeld => hK _ _ hHeld ?_) (hKB)
        clear hK
        try simp only [Act.put, List.setIfInBounds_toArray, List.set_cons_zero, List.set_cons_succ]
        refine takeL (i := 22) (v := _) rfl (by kernel_rfl) (by kernel_rfl) (by kernel_rfl) (fun _ _ _ h => h) (yieldsIf_bin (by rfl) _ _ _ _ _ rfl _ _ rfl rfl _ hqE (hg (byteV (drawKey seed i)) _ _)) (by assumption) ?_
        try simp only [Act.put, List.setIfInBounds_toArray, List.set_cons_zero, List.set_cons_succ]
        refine takeL (i := 23) (v := _) rfl (by kernel_rfl) (by kernel_rfl) (by kernel_rfl) (fun _ _ _ h => h) (Or.inl ⟨by rfl, by intro w hSw; (try dsimp only at hSw); go_simp; try with_reducible rfl⟩) (by assumption) ?_
        try simp only [Act.put, List.setIfInBounds_toArray, List.set_cons_zero, List.set_cons_succ]
        refine wpAnyH_done (by kernel_rfl) ?_ _
        have hbn := pp.one.keep0 hKB
        have hbc := hG4.cell.keep0 hKB
        have hbs := hG4.seed.keep0 hKB
        have hKr := hG4.keep.step hKB (fun _ h => h.elim)
        clear hG4 hKB pp hHeld
        go_wp2_with (first | (refine wpl_load rfl 23 _ rfl gp rfl hbn _ Tryd.undK rfl (by rw [HN.1]; exact Tryd.infoK) ?_) | (refine wpl_store rfl 23 _ _ rfl gc rfl (byteV (stepChain z)) rfl hbc (by rw [HN.1, lz]) (by rw [HN.1]; exact Tryd.infoK) HN.2 ?_))
        intro w30 hbc30 hk30 _
        have hG30 : RowsGo wB gc r0 seed (stepChain z) w30 := ⟨macL_key z [2], hbc30, hbs.keep hk30 (fun e => by have e' : r0 = gc := e; omega), hKr.trans hk30⟩
        clear hbn hbc hbs hKr hbc30 hk30
        go_wp2_with fail
        go_roundw
        case rel => first | exact ⟨i + 1, _, by omega, by go_num, hG30⟩ | ((repeat apply Exists.intro); exact ⟨⟨i + 1, _, by omega, by go_num, hG30⟩, rfl⟩)
        case measure => simp [intOf]; omega
    · have hK := hG.keep
      clear hG hGo
      go_wp2_with fail
      go_ret
      exact ⟨by first | rfl | simp, hKB.step hK (fun i hi => .inr (by rw [show i = gc from hi]; exact hgcw))⟩
end Go.Proofs.YtnkahfpinkgimaaDoor
