/-
  Chapter 17's first examples.
-/
import Derived.Test.YtmbdldnldcgdjaaTreeRoot
namespace Go.Proofs.Ytmbdldnldcgdjaa
set_option linter.unusedSimpArgs false
set_option linter.unusedVariables false
open Go.RowKit

theorem Try.eqgT : Try.prog.eqGuardType Try.prog.depth 25 = false := by kernel_rfl
theorem Try.guardT (op : BinOp) (x y : Operand) (xs ys : Array Value) (w : World) : (eqGuard op 25 x y (.agg xs) (.agg ys)).run Try.prog w = .ok () w := run_eqGuard_agg w op _ x y xs ys Try.eqgT
def five : List Int := 5 :: List.replicate 31 0
theorem hash32_five : Hash32 five := ⟨by simp [five], fun x hx => by
  rcases List.mem_cons.1 hx with rfl | hx
  · omega
  · rw [(List.mem_replicate.1 hx).2]; omega⟩
theorem hash32_z : Hash32 z32 := ⟨z32_len, areB_zeros 32⟩
theorem Try.builtFive : Try.prog.built 25 [(0, .int .u8 5)] = some (byteV five).toArray := by kernel_rfl
theorem Try.builtZT : Try.prog.built 25 [] = some (byteV z32).toArray := by kernel_rfl
theorem leaf_num : (leafL [] != z32) = true := by decide +kernel
theorem split_nums : splitN 5 = 4 ∧ splitN 1 = 0 := by decide +kernel
theorem Try.infoHs : (Try.prog.info? 25).map (fun i => (i.zero.map (·.cells.size), i.size)) = some (some 32, 32) := by kernel_rfl
set_option maxRecDepth 20000 in
set_option maxHeartbeats 1600000 in
theorem treefirst_walk (w : World) : Calls Try.prog 8 #[] w (TrueS w) := by
  have hzv := Try.zeroH32
  have hb5 := Try.builtFive
  have hbz := Try.builtZT
  have HZ := Lib.hid (show (byteV z32).length = 32 by rw [byteV_len, z32_len])
  have HF := Lib.hid (show (byteV five).length = 32 by rw [byteV_len]; exact hash32_five.1)
  have hF1 := byteV_one five
  have HL := Lib.hid (fun (w : World) => leaf_walk (w := w) (PieceOk.none w) (by omega))
  have HRT := Lib.hid (fun (w : World) (g : Nat) (hb : Blk w g (byteV five) 25) => root_walk 1 (l := [five]) (cap := 1) rfl (Hs.blk (sp := []) (T := 25) (by simpa using hb) (fun x hx => by rw [List.mem_singleton.1 hx]; exact hash32_five) (by simp)) (by omega) (by omega))
  rw [rootL_one (l := [five]) rfl] at HRT
  have hq1 := fun (w : World) => Try.eqlDig hash32_five.1 hash32_five.1 hash32_five.2 hash32_five.2 w
  rw [beq_self_eq_true] at hq1
  have hq2 := fun (w : World) => Try.neqDig (leafL_len []) hash32_z.1 (leafL_bytes []) hash32_z.2 w
  rw [leaf_num] at hq2
  have hg := fun (op : BinOp) (V U : List Value) (x y : Operand) (w : World) => Try.guardT op x y V.toArray U.toArray w
  simp only [List.getD_cons_zero] at HRT
  unfold keyV at HRT HL
  generalize byteV five = F at *
  generalize byteV (leafL []) = D at *
  generalize byteV z32 = Z at *
  go_enter Try.func8, Try.ntmps8
  have hbZ := Blk.new w Z 25
  have hkA := (Keeps.refl Nil w).alloc (.cells Z.toArray 25)
  go_wp2_with (first | (refine wpl_build rfl 25 _ rfl F [(0, .int .u8 5)] hb5 (by simp [Act.eval]) ?_) | (refine wpl_store rfl 25 _ _ rfl w.heap.size rfl F rfl hbZ (by rw [HF.out, HZ.out]) (by rw [HF.out]; exact Try.infoH) hF1 ?_))
  intro w1 hb1 hk1 hs1
  have hK : Keeps Nil w w1 := hkA.step hk1 (fun i hi => .inr (by rw [show i = w.heap.size from hi]; exact Nat.le_refl _))
  clear hbZ hkA hk1 hs1
  generalize w.heap.size = g at *
  go_wp2_with fail
  refine wp_region_held_drew (S := fun w' => Keeps Nil w1.drew w') (by kernel_rfl) (Keeps.refl _ _) (fun hHeld => ?_)
  replace hK := hK.drew
  replace hb1 := hb1.drew
  generalize w1.drew = v0 at *
  have hiF : (Try.prog.info? 25).map (·.size) = some F.length := by rw [HF.out]; exact Try.infoH
  have hUH := Try.undH
  refine takeL (i := 0) (v := _) rfl (by kernel_rfl) (by kernel_rfl) (by kernel_rfl) (fun _ _ _ h => h) (yieldsIf_load_mid (by rfl) 25 _ rfl g 0 rfl (F) _ (fun w hSw => ((hb1.keep0 hSw).range0)) hUH rfl hiF) (by assumption) ?_
  try simp only [Act.put, List.setIfInBounds_toArray, List.set_cons_zero, List.set_cons_succ]
  refine takeL (i := 3) (v := _) rfl (by kernel_rfl) (by kernel_rfl) (by kernel_rfl) (fun _ _ _ h => h) (yieldsIf_load_mid (by rfl) 25 _ rfl g 0 rfl (F) _ (fun w hSw => ((hb1.keep0 hSw).range0)) hUH rfl hiF) (by assumption) ?_
  try simp only [Act.put, List.setIfInBounds_toArray, List.set_cons_zero, List.set_cons_succ]
  have hpa := Blk.new v0 F 25
  have hka := (Keeps.refl Nil v0).alloc (.cells F.toArray 25)
  refine onlyL (i := 1) rfl (by kernel_rfl) (fun K hK => ?_)
  refine step_bsOne rfl 27 25 _ rfl F (.agg F.toArray) rfl 32 Try.underlying27 Try.infoHs (by omega) (by omega) HF.out (by simp [Act.eval]) ?_
  refine (fun hHeld => hK _ _ hHeld ?_) (hka)
  clear hK
  try simp only [Act.put, List.setIfInBounds_toArray, List.set_cons_zero, List.set_cons_succ]
  generalize v0.heap.size = ga at *
  generalize v0.alloc (.cells F.toArray 25) = v1 at *
  refine onlyL (i := 2) rfl (by kernel_rfl) (fun K hK => ?_)
  go_simp
  refine (HRT.out v1 ga hpa).mono ?_
  rintro e v2 ⟨rfl, qk⟩
  have hk2 := hka.trans qk
  clear qk hpa hka
  refine (fun hHeld => hK _ _ hHeld ?_) (hk2)
  clear hK
  try simp only [Act.put, List.setIfInBounds_toArray, List.set_cons_zero, List.set_cons_succ]
  refine takeL (i := 4) (v := _) rfl (by kernel_rfl) (by kernel_rfl) (by kernel_rfl) (fun _ _ _ h => h) (yieldsIf_bin (by rfl) _ _ _ _ _ rfl _ _ rfl rfl _ hq1 (hg .eql F F _ _)) (by assumption) ?_
  try simp only [Act.put, List.setIfInBounds_toArray, List.set_cons_zero, List.set_cons_succ]
  refine takeL (i := 5) (v := _) rfl (by kernel_rfl) (by kernel_rfl) (by kernel_rfl) (fun _ _ _ h => h) (Or.inl ⟨by rfl, by intro w hSw; (try dsimp only at hSw); go_simp; try with_reducible rfl⟩) (by assumption) ?_
  try simp only [Act.put, List.setIfInBounds_toArray, List.set_cons_zero, List.set_cons_succ]
  refine onlyL (i := 6) rfl (by kernel_rfl) (fun K hK => ?_)
  go_simp
  refine (split_walk 5 v2 (by omega) (by omega)).mono ?_
  rintro e v3 ⟨rfl, rfl⟩
  rw [show (5 : Int).toNat = 5 from rfl, split_nums.1]
  refine (fun hHeld => hK _ _ hHeld ?_) (hk2)
  clear hK
  try simp only [Act.put, List.setIfInBounds_toArray, List.set_cons_zero, List.set_cons_succ]
  refine takeL (i := 7) (v := _) rfl (by kernel_rfl) (by kernel_rfl) (by kernel_rfl) (fun _ _ _ h => h) (Or.inl ⟨by rfl, by intro w hSw; (try dsimp only at hSw); go_simp; try with_reducible rfl⟩) (by assumption) ?_
  try simp only [Act.put, List.setIfInBounds_toArray, List.set_cons_zero, List.set_cons_succ]
  refine takeL (i := 8) (v := _) rfl (by kernel_rfl) (by kernel_rfl) (by kernel_rfl) (fun _ _ _ h => h) (Or.inl ⟨by rfl, by intro w hSw; (try dsimp only at hSw); go_simp; try with_reducible rfl⟩) (by assumption) ?_
  try simp only [Act.put, List.setIfInBounds_toArray, List.set_cons_zero, List.set_cons_succ]
  refine takeL (i := 9) (v := _) rfl (by kernel_rfl) (by kernel_rfl) (by kernel_rfl) (fun _ _ _ h => h) (Or.inl ⟨by rfl, by intro w hSw; (try dsimp only at hSw); go_simp; try with_reducible rfl⟩) (by assumption) ?_
  try simp only [Act.put, List.setIfInBounds_toArray, List.set_cons_zero, List.set_cons_succ]
  refine onlyL (i := 10) rfl (by kernel_rfl) (fun K hK => ?_)
  go_simp
  refine (split_walk 1 v2 (by omega) (by omega)).mono ?_
  rintro e v3 ⟨rfl, rfl⟩
  rw [show (1 : Int).toNat = 1 from rfl, split_nums.2]
  refine (fun hHeld => hK _ _ hHeld ?_) (hk2)
  clear hK
  try simp only [Act.put, List.setIfInBounds_toArray, List.set_cons_zero, List.set_cons_succ]
  refine takeL (i := 11) (v := _) rfl (by kernel_rfl) (by kernel_rfl) (by kernel_rfl) (fun _ _ _ h => h) (Or.inl ⟨by rfl, by intro w hSw; (try dsimp only at hSw); go_simp; try with_reducible rfl⟩) (by assumption) ?_
  try simp only [Act.put, List.setIfInBounds_toArray, List.set_cons_zero, List.set_cons_succ]
  refine takeL (i := 12) (v := _) rfl (by kernel_rfl) (by kernel_rfl) (by kernel_rfl) (fun _ _ _ h => h) (Or.inl ⟨by rfl, by intro w hSw; (try dsimp only at hSw); go_simp; try with_reducible rfl⟩) (by assumption) ?_
  try simp only [Act.put, List.setIfInBounds_toArray, List.set_cons_zero, List.set_cons_succ]
  refine takeL (i := 13) (v := _) rfl (by kernel_rfl) (by kernel_rfl) (by kernel_rfl) (fun _ _ _ h => h) (Or.inl ⟨by rfl, by intro w hSw; (try dsimp only at hSw); go_simp; try with_reducible rfl⟩) (by assumption) ?_
  try simp only [Act.put, List.setIfInBounds_toArray, List.set_cons_zero, List.set_cons_succ]
  refine takeL (i := 15) (v := .agg (Z).toArray) rfl (by kernel_rfl) (by kernel_rfl) (by kernel_rfl) (fun _ _ _ h => h) (yieldsIf_build (by rfl) 25 _ rfl (Z) _ hbz (by simp [Act.eval])) (by assumption) ?_
  try simp only [Act.put, List.setIfInBounds_toArray, List.set_cons_zero, List.set_cons_succ]
  refine onlyL (i := 14) rfl (by kernel_rfl) (fun K hK => ?_)
  go_simp
  refine (HL.out v2).mono ?_
  rintro e v3 ⟨rfl, qk⟩
  have hk3 := hk2.trans qk
  clear qk hk2
  refine (fun hHeld => hK _ _ hHeld ?_) (hk3)
  clear hK
  try simp only [Act.put, List.setIfInBounds_toArray, List.set_cons_zero, List.set_cons_succ]
  refine takeL (i := 16) (v := _) rfl (by kernel_rfl) (by kernel_rfl) (by kernel_rfl) (fun _ _ _ h => h) (yieldsIf_bin (by rfl) _ _ _ _ _ rfl _ _ rfl rfl _ hq2 (hg .neq D Z _ _)) (by assumption) ?_
  try simp only [Act.put, List.setIfInBounds_toArray, List.set_cons_zero, List.set_cons_succ]
  refine takeL (i := 17) (v := _) rfl (by kernel_rfl) (by kernel_rfl) (by kernel_rfl) (fun _ _ _ h => h) (Or.inl ⟨by rfl, by intro w hSw; (try dsimp only at hSw); go_simp; try with_reducible rfl⟩) (by assumption) ?_
  try simp only [Act.put, List.setIfInBounds_toArray, List.set_cons_zero, List.set_cons_succ]
  refine takeL (i := 18) (v := _) rfl (by kernel_rfl) (by kernel_rfl) (by kernel_rfl) (fun _ _ _ h => h) (Or.inl ⟨by rfl, by intro w hSw; (try dsimp only at hSw); go_simp; try with_reducible rfl⟩) (by assumption) ?_
  try simp only [Act.put, List.setIfInBounds_toArray, List.set_cons_zero, List.set_cons_succ]
  refine wpAnyH_done (by kernel_rfl) ?_ _
  go_wp2_with fail
  go_ret
  exact ⟨rfl, hK.trans hk3⟩
end Go.Proofs.Ytmbdldnldcgdjaa
