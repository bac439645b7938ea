/-
  The law ChainRoots.
-/
import Derived.Test.YtnkahfpinkgimaaDoorChainFirst
import Derived.Test.YtnkahfpinkgimaaDoorRefChain
import Derived.Test.YtnkahfpinkgimaaDoorKeyOpen
namespace Go.Proofs.YtnkahfpinkgimaaDoor
set_option linter.unusedSimpArgs false
set_option linter.unusedVariables false
open Go.RowKit

set_option maxRecDepth 20000 in
set_option maxHeartbeats 6400000 in
theorem chainRoots_walk (z0 z1 : List Int) (w : World) (w0 : z0.length = 32 ∧ AreB z0) (w1 : z1.length = 32 ∧ AreB z1) :
    Calls Tryd.prog 3 #[.agg (byteV z0).toArray, .agg (byteV z1).toArray] w (TrueS w) := by
  have hzv := Tryd.zeroK32
  have HZ := Lib.hid (show (byteV z32).length = 32 by rw [byteV_len, z32_len])
  have HA : (byteV (rootA z0 z1)).length = 32 ∧ ∀ v ∈ byteV (rootA z0 z1), v.oneCell' = true := ⟨key_len (rootA_key _ _), byteV_one _⟩
  have HB : (byteV (rootB z0 z1)).length = 32 ∧ ∀ v ∈ byteV (rootB z0 z1), v.oneCell' = true := ⟨key_len (rootB_key _ _), byteV_one _⟩
  have HR := Lib.hid (fun w => @root_walk w z0 z1 w0 w1)
  unfold TwoPost at HR
  unfold keyV at HR
  generalize byteV z32 = Z at *
  have l0 := key_len w0
  have l1 := key_len w1
  obtain ⟨wA, hwA, hb0, hb1, hkA, hsA⟩ := alloc2 w (byteV z0) 23 (byteV z1) 23
  have HWA := Lib.hid hwA
  clear hwA
  go_enter Tryd.func3, Tryd.ntmps3
  go_wp2_with fail
  rw [← HWA.out]
  clear HWA
  refine (chainfirst_walk wA).mono ?_
  rintro e w2 ⟨rfl, hk1⟩
  replace hb0 := hb0.keep0 hk1
  replace hb1 := hb1.keep0 hk1
  have hK1 := hkA.trans hk1
  clear hkA hk1 hsA
  generalize hr0 : w.heap.size = r0 at *
  go_wp2_with (first | (refine wpl_load rfl 23 _ rfl r0 rfl hb0 _ Tryd.undK rfl (by rw [l0]; exact Tryd.infoK) ?_) | (refine wpl_load rfl 23 _ rfl (r0 + 1) rfl hb1 _ Tryd.undK rfl (by rw [l1]; exact Tryd.infoK) ?_))
  refine (HR.out w2).mono ?_
  rintro e w3 ⟨rfl, hk2⟩
  replace hb0 := hb0.keep0 hk2
  replace hb1 := hb1.keep0 hk2
  have hK2 := hK1.trans hk2
  clear hk2 hK1
  -- two values (byteV (rootA z0 z1)), (byteV (rootB z0 z1)) (32 cells each) go into two new variables; the world before is w3
  obtain ⟨wa, hwa, hb1, hb2, hka, hsa⟩ := alloc2 w3 Z 23 Z 23
  subst hwa
  clear hka hsa
  go_wp2_with (first | (refine wpl_store rfl 23 _ _ rfl w3.heap.size rfl (byteV (rootA z0 z1)) rfl hb1 (by rw [HA.1, HZ.out]) (by rw [HA.1]; exact Tryd.infoK) HA.2 ?_))
  intro wb hb3 hk3 hs3
  clear hs3 hb1
  have hb4 := hb2.keep hk3 (fun e => by have e' : w3.heap.size + 1 = w3.heap.size := e; omega)
  clear hb2
  go_wp2_with (refine wpl_store rfl 23 _ _ rfl (w3.heap.size + 1) rfl (byteV (rootB z0 z1)) rfl hb4 (by rw [HB.1, HZ.out]) (by rw [HB.1]; exact Tryd.infoK) HB.2 ?_)
  intro w4 hb6 hk6 hs6
  clear hs6
  have pa := Pair.of hb3 hb6 hk3 hk6
  clear hb3 hk3 hb4 hb6 hk6
  generalize w3.heap.size = ga at *
  replace hb0 := hb0.keep0 pa.keep
  replace hb1 := hb1.keep0 pa.keep
  have hK3 := hK2.trans pa.keep
  clear hK2
  go_wp2_with fail
  refine wp_region_held_drew (S := fun _ => True) (by kernel_rfl) trivial (fun hHeld => ?_)
  have hKB : Keeps Nil w w4.drew := hK3.drew
  replace hb0 := hb0.drew
  replace hb1 := hb1.drew
  have pa1 := pa.one.drew
  have pa2 := pa.two.drew
  clear pa hK3
  generalize w4.drew = v0 at *
  refine takeL (i := 0) (v := _) rfl (by kernel_rfl) (by kernel_rfl) (by kernel_rfl) (fun _ _ _ h => h) (Or.inl ⟨by rfl, by intro w hSw; (try dsimp only at hSw); go_simp; try with_reducible rfl⟩) (by assumption) ?_
  try simp only [Act.put, List.setIfInBounds_toArray, List.set_cons_zero, List.set_cons_succ]
  refine takeL (i := 1) (v := _) rfl (by kernel_rfl) (by kernel_rfl) (by kernel_rfl) (fun _ _ _ h => h) (Or.inl ⟨by rfl, by intro w hSw; (try dsimp only at hSw); go_simp; try with_reducible rfl⟩) (by assumption) ?_
  try simp only [Act.put, List.setIfInBounds_toArray, List.set_cons_zero, List.set_cons_succ]
  refine onlyL (i := 2) rfl (by kernel_rfl) (fun K hK => ?_)
  refine step_bsK rfl _ 5 12 _ rfl (byteV txtRoot) Tryd.underlying27 Tryd.bs8 rfl (by decide) (by decide) (by simp [Act.eval, byteV, txtRoot]) (by simp [Value.cells, byteV, txtRoot]) ?_
  intro g2 w5 hg2 hb2 qk
  refine (fun hHeld => hK _ _ hHeld ?_) (trivial)
  clear hK
  try simp only [Act.put, List.setIfInBounds_toArray, List.set_cons_zero, List.set_cons_succ]
  refine onlyL (i := 3) rfl (by kernel_rfl) (fun K hK => ?_)
  refine step_convBB rfl 27 5 _ rfl Tryd.underlying27 Tryd.underlying5 rfl hb2 ?_
  intro w6 hc3 hk3 hg3
  have qk3 : Keeps Nil v0 w6 := qk.step hk3 (fun i hi => .inr (by rw [show i = g2 from hi, hg2]; exact Nat.le_refl _))
  have ht3 : Row .u8 w6 (some ⟨g2, 0, none⟩) 12 txtRoot := ⟨rfl, by omega, fun _ => ⟨g2, 0, rfl, hg3, fun i hi => by rw [Nat.zero_add]; exact hc3 i _ (byteV_at _ _ hi rfl)⟩, by decide⟩
  refine (fun hHeld => hK _ _ hHeld ?_) (trivial)
  clear hK
  try simp only [Act.put, List.setIfInBounds_toArray, List.set_cons_zero, List.set_cons_succ]
  replace hKB := hKB.trans qk3
  replace hb0 := hb0.keep0 qk3
  replace hb1 := hb1.keep0 qk3
  replace pa1 := pa1.keep0 qk3
  replace pa2 := pa2.keep0 qk3
  clear hb2 qk qk3 hk3 hc3 hg3 hg2
  refine onlyL (i := 4) rfl (by kernel_rfl) (fun K hK => ?_)
  go_simp
  refine (refDerive_walk (n := 64) (PieceOk.some (c := 32) (hb0.row8 w0.2 w0.1 (by omega))) (PieceOk.some (c := 32) (hb1.row8 w1.2 w1.1 (by omega))) (PieceOk.some (c := 12) ht3) (by omega) (by omega) (by omega) (by omega)).mono ?_
  rintro e w7 ⟨ad, cd, rfl, hod, qk, hcd⟩
  refine (fun hHeld => hK _ _ hHeld ?_) (trivial)
  clear hK
  try simp only [Act.put, List.setIfInBounds_toArray, List.set_cons_zero, List.set_cons_succ]
  replace hKB := hKB.trans qk
  replace pa1 := pa1.keep0 qk
  replace pa2 := pa2.keep0 qk
  clear qk hb0 hb1 ht3
  refine takeL (i := 5) (v := _) rfl (by kernel_rfl) (by kernel_rfl) (by kernel_rfl) (fun _ _ _ h => h) (Or.inl ⟨by rfl, by intro w hSw; (try dsimp only at hSw); go_simp; try with_reducible rfl⟩) (by assumption) ?_
  try simp only [Act.put, List.setIfInBounds_toArray, List.set_cons_zero, List.set_cons_succ]
  refine takeL (i := 6) (v := _) rfl (by kernel_rfl) (by kernel_rfl) (by kernel_rfl) (fun _ _ _ h => h) (Or.inl ⟨by rfl, by intro w hSw; (try dsimp only at hSw); go_simp; try with_reducible rfl⟩) (by assumption) ?_
  try simp only [Act.put, List.setIfInBounds_toArray, List.set_cons_zero, List.set_cons_succ]
  refine takeL (i := 7) (v := _) rfl (by kernel_rfl) (by kernel_rfl) (by kernel_rfl) (fun _ _ _ h => h) (Or.inl ⟨by rfl, by intro w hSw; (try dsimp only at hSw); go_simp; try with_reducible rfl⟩) (by assumption) ?_
  try simp only [Act.put, List.setIfInBounds_toArray, List.set_cons_zero, List.set_cons_succ]
  refine takeL (i := 8) (v := _) rfl (by kernel_rfl) (by kernel_rfl) (by kernel_rfl) (fun _ _ _ h => h) (Or.inl ⟨by rfl, by intro w hSw; (try dsimp only at hSw); go_simp; try with_reducible rfl⟩) (by assumption) ?_
  try simp only [Act.put, List.setIfInBounds_toArray, List.set_cons_zero, List.set_cons_succ]
  refine takeL (i := 9) (v := _) rfl (by kernel_rfl) (by kernel_rfl) (by kernel_rfl) (fun _ _ _ h => h) (Or.inl ⟨by rfl, by intro w hSw; (try dsimp only at hSw); go_simp; try with_reducible rfl⟩) (by assumption) ?_
  try simp only [Act.put, List.setIfInBounds_toArray, List.set_cons_zero, List.set_cons_succ]
  refine wpAnyH_done (by kernel_rfl) ?_ _
  have hdl := deriveL_len z0 z1 txtRoot 64
  have hA : (rootA z0 z1).length = 32 := (rootA_key _ _).1
  have hB : (rootB z0 z1).length = 32 := (rootB_key _ _).1
  have hAB : deriveL z0 z1 txtRoot 64 = rootA z0 z1 ++ rootB z0 z1 := (List.take_append_drop 32 _).symm
  rw [hAB] at hod
  clear hAB hdl HR HA HB
  generalize rootA z0 z1 = X at *
  generalize rootB z0 z1 = Y at *
  obtain ⟨gd, off, rfl, hgd, hcc⟩ := hod.cell (by omega)
  go_wp2_with fail
  go_loopw [10] (fun v wr => ∃ i q : Nat, i ≤ 32 ∧ v = .int .i64 i ∧ wr = w7.drewN q) (fun v _ => 32 - (intOf v).toNat)
  case atStart => exact ⟨0, 0, by omega, rfl, rfl⟩
  case round =>
    obtain ⟨i, q, hi, rfl, rfl⟩ := hrel
    by_cases hi32 : i < 32
    · have x1 := hcc i (by omega)
      have x2 := hcc (32 + i) (by omega)
      rw [show (X ++ Y).getD i 0 = X.getD i 0 by simp only [List.getD]; rw [List.getElem?_append_left (by omega)]] at x1
      rw [show (X ++ Y).getD (32 + i) 0 = Y.getD i 0 by simp only [List.getD]; rw [List.getElem?_append_right (by omega), hA, Nat.add_sub_cancel_left]] at x2
      have y1 := pa1.cell i (byteV_at X i (by omega) rfl)
      have y2 := pa2.cell i (byteV_at Y i (by omega) rfl)
      have hi0 : (0 : Int) ≤ i := by omega
      have hi1 : (i : Int) < 32 := by omega
      have hi2 : (32 : Int) + (i : Int) < 64 := by omega
      generalize X.getD i 0 = xx at *
      generalize Y.getD i 0 = yy at *
      have hxx : (xx != xx) = false := by simp
      have hyy : (yy != yy) = false := by simp
      go_wp2_with fail
      go_quiet (fail)
      go_wp2_with fail
      go_roundw
      case rel => first | exact ⟨i + 1, _, by omega, by go_num, rfl⟩ | ((repeat apply Exists.intro); exact ⟨⟨i + 1, _, by omega, by go_num, rfl⟩, rfl⟩)
      case measure => simp [intOf]; omega
    · obtain rfl : i = 32 := by omega
      go_wp2_with fail
      go_ret
      exact ⟨by first | rfl | simp, hKB.drewN q⟩
end Go.Proofs.YtnkahfpinkgimaaDoor
