/-
  The law ChainSays.
-/
import Derived.Test.YtnkahfpinkgimaaDoorChainFirst
import Derived.Test.YtnkahfpinkgimaaDoorRefChain
import Derived.Test.YtnkahfpinkgimaaDoorKeyOpen
namespace Go.Proofs.YtnkahfpinkgimaaDoor
set_option linter.unusedSimpArgs false
set_option linter.unusedVariables false
open Go.RowKit

set_option maxRecDepth 20000 in
set_option maxHeartbeats 6400000 in
theorem chainSays_walk (z0 z1 z2 : List Int) (a3 : Int) (w : World) (w0 : z0.length = 32 ∧ AreB z0) (w1 : z1.length = 32 ∧ AreB z1) (w2 : z2.length = 32 ∧ AreB z2) (w3 : (Lit.int .u32 a3).wf = true) :
    Calls Tryd.prog 10 #[.agg (byteV z0).toArray, .agg (byteV z1).toArray, .agg (byteV z2).toArray, .int .u32 a3] w (TrueS w) := by
  have hn := u32_wf w3
  have hzv := Tryd.zeroK32
  have HZ := Lib.hid (show (byteV z32).length = 32 by rw [byteV_len, z32_len])
  have HA : (byteV (rootA z0 z1)).length = 32 ∧ ∀ v ∈ byteV (rootA z0 z1), v.oneCell' = true := ⟨key_len (rootA_key _ _), byteV_one _⟩
  have HB : (byteV (rootB z0 z1)).length = 32 ∧ ∀ v ∈ byteV (rootB z0 z1), v.oneCell' = true := ⟨key_len (rootB_key _ _), byteV_one _⟩
  have HC : (byteV (stepChain z2)).length = 32 ∧ ∀ v ∈ byteV (stepChain z2), v.oneCell' = true := ⟨key_len (macL_key _ _), byteV_one _⟩
  have HD : (byteV (stepKey z2)).length = 32 ∧ ∀ v ∈ byteV (stepKey z2), v.oneCell' = true := ⟨key_len (macL_key _ _), byteV_one _⟩
  have hqA := fun w => Tryd.eqlKsame (rootA_key z0 z1) w
  have hqB := fun w => Tryd.eqlKsame (rootB_key z0 z1) w
  have hqC := fun w => Tryd.eqlKsame (macL_key z2 [2]) w
  have hqD := fun w => Tryd.eqlKsame (macL_key z2 [1]) w
  have hqE := fun w => Tryd.eqlKsame (macL_key z2 (le4 a3)) w
  rw [show macL z2 [2] = stepChain z2 from rfl] at hqC
  rw [show macL z2 [1] = stepKey z2 from rfl] at hqD
  rw [show macL z2 (le4 a3) = drawKey z2 a3 from rfl] at hqE
  have HR := Lib.hid (And.intro (fun w => @root_walk w z0 z1 w0 w1) (And.intro (fun w => @refRoot_walk w z0 z1 w0 w1) (And.intro (fun w => @step_walk w z2 w2) (And.intro (fun w => @refStep_walk w z2 w2) (And.intro (fun w => @draw_walk w z2 w2 a3 hn) (fun w => @refDraw_walk w z2 w2 a3 hn))))))
  unfold TwoPost at HR
  unfold keyV at HR
  have l0 := key_len w0
  have l1 := key_len w1
  have l2 := key_len w2
  generalize byteV (rootA z0 z1) = A at *
  generalize byteV (rootB z0 z1) = B at *
  generalize byteV (stepChain z2) = C at *
  generalize byteV (stepKey z2) = D at *
  generalize byteV (drawKey z2 a3) = E at *
  generalize byteV z32 = Z at *
  generalize byteV z0 = X0 at *
  generalize byteV z1 = X1 at *
  generalize byteV z2 = X2 at *
  obtain ⟨wA, hwA, hb0, hb1, hb2, hkA, hsA⟩ := alloc3 w X0 23 X1 23 X2 23
  have HWA := Lib.hid hwA
  clear hwA w0 w1 w2 w3
  go_enter Tryd.func10, Tryd.ntmps10
  go_wp2_with fail
  rw [← HWA.out]
  clear HWA
  refine (chainfirst_walk wA).mono ?_
  rintro e w1 ⟨rfl, hk1⟩
  replace hb0 := hb0.keep0 hk1
  replace hb1 := hb1.keep0 hk1
  replace hb2 := hb2.keep0 hk1
  have hK1 := hkA.trans hk1
  clear hkA hk1 hsA
  generalize hr0 : w.heap.size = r0 at *
  go_wp2_with (first | (refine wpl_load rfl 23 _ rfl r0 rfl hb0 _ Tryd.undK rfl (by rw [l0]; exact Tryd.infoK) ?_) | (refine wpl_load rfl 23 _ rfl (r0 + 1) rfl hb1 _ Tryd.undK rfl (by rw [l1]; exact Tryd.infoK) ?_))
  refine (HR.out.1 w1).mono ?_
  rintro e w2 ⟨rfl, hk2⟩
  replace hb0 := hb0.keep0 hk2
  replace hb1 := hb1.keep0 hk2
  replace hb2 := hb2.keep0 hk2
  have hK2 := hK1.trans hk2
  clear hk2 hK1
  -- two values A, B (32 cells each) go into two new variables; the world before is w2
  obtain ⟨wa, hwa, hb1, hb2, hka, hsa⟩ := alloc2 w2 Z 23 Z 23
  subst hwa
  clear hka hsa
  go_wp2_with (first | (refine wpl_store rfl 23 _ _ rfl w2.heap.size rfl A rfl hb1 (by rw [HA.1, HZ.out]) (by rw [HA.1]; exact Tryd.infoK) HA.2 ?_))
  intro wb hb3 hk3 hs3
  clear hs3 hb1
  have hb4 := hb2.keep hk3 (fun e => by have e' : w2.heap.size + 1 = w2.heap.size := e; omega)
  clear hb2
  go_wp2_with (refine wpl_store rfl 23 _ _ rfl (w2.heap.size + 1) rfl B rfl hb4 (by rw [HB.1, HZ.out]) (by rw [HB.1]; exact Tryd.infoK) HB.2 ?_)
  intro w3 hb6 hk6 hs6
  clear hs6
  have pa := Pair.of hb3 hb6 hk3 hk6
  clear hb3 hk3 hb4 hb6 hk6
  generalize w2.heap.size = ga at *
  replace hb0 := hb0.keep0 pa.keep
  replace hb1 := hb1.keep0 pa.keep
  replace hb2 := hb2.keep0 pa.keep
  have hK3 := hK2.trans pa.keep
  clear hK2
  go_wp2_with (first | (refine wpl_load rfl 23 _ rfl r0 rfl hb0 _ Tryd.undK rfl (by rw [l0]; exact Tryd.infoK) ?_) | (refine wpl_load rfl 23 _ rfl (r0 + 1) rfl hb1 _ Tryd.undK rfl (by rw [l1]; exact Tryd.infoK) ?_))
  refine (HR.out.2.1 w3).mono ?_
  rintro e w4 ⟨rfl, hk4⟩
  replace hb2 := hb2.keep0 hk4
  replace pa := pa.keep0 hk4
  have hK4 := hK3.trans hk4
  clear hk4 hK3 hb0 hb1
  -- two values A, B (32 cells each) go into two new variables; the world before is w4
  obtain ⟨wa, hwa, hb1, hb2, hka, hsa⟩ := alloc2 w4 Z 23 Z 23
  subst hwa
  clear hka hsa
  go_wp2_with (first | (refine wpl_store rfl 23 _ _ rfl w4.heap.size rfl A rfl hb1 (by rw [HA.1, HZ.out]) (by rw [HA.1]; exact Tryd.infoK) HA.2 ?_))
  intro wb hb3 hk3 hs3
  clear hs3 hb1
  have hb4 := hb2.keep hk3 (fun e => by have e' : w4.heap.size + 1 = w4.heap.size := e; omega)
  clear hb2
  go_wp2_with (refine wpl_store rfl 23 _ _ rfl (w4.heap.size + 1) rfl B rfl hb4 (by rw [HB.1, HZ.out]) (by rw [HB.1]; exact Tryd.infoK) HB.2 ?_)
  intro w5 hb6 hk6 hs6
  clear hs6
  have pb := Pair.of hb3 hb6 hk3 hk6
  clear hb3 hk3 hb4 hb6 hk6
  generalize w4.heap.size = gb at *
  replace hb2 := hb2.keep0 pb.keep
  replace pa := pa.keep0 pb.keep
  have hK5 := hK4.trans pb.keep
  clear hK4
  go_wp2_with (refine wpl_load rfl 23 _ rfl (r0 + 1 + 1) rfl hb2 _ Tryd.undK rfl (by rw [l2]; exact Tryd.infoK) ?_)
  refine (HR.out.2.2.1 w5).mono ?_
  rintro e w6 ⟨rfl, hk6⟩
  replace hb2 := hb2.keep0 hk6
  replace pa := pa.keep0 hk6
  replace pb := pb.keep0 hk6
  have hK6 := hK5.trans hk6
  clear hk6 hK5
  -- two values C, D (32 cells each) go into two new variables; the world before is w6
  obtain ⟨wa, hwa, hb1, hb2, hka, hsa⟩ := alloc2 w6 Z 23 Z 23
  subst hwa
  clear hka hsa
  go_wp2_with (first | (refine wpl_store rfl 23 _ _ rfl w6.heap.size rfl C rfl hb1 (by rw [HC.1, HZ.out]) (by rw [HC.1]; exact Tryd.infoK) HC.2 ?_))
  intro wb hb3 hk3 hs3
  clear hs3 hb1
  have hb4 := hb2.keep hk3 (fun e => by have e' : w6.heap.size + 1 = w6.heap.size := e; omega)
  clear hb2
  go_wp2_with (refine wpl_store rfl 23 _ _ rfl (w6.heap.size + 1) rfl D rfl hb4 (by rw [HD.1, HZ.out]) (by rw [HD.1]; exact Tryd.infoK) HD.2 ?_)
  intro w7 hb6 hk6 hs6
  clear hs6
  have pc := Pair.of hb3 hb6 hk3 hk6
  clear hb3 hk3 hb4 hb6 hk6
  generalize w6.heap.size = gc at *
  replace hb2 := hb2.keep0 pc.keep
  replace pa := pa.keep0 pc.keep
  replace pb := pb.keep0 pc.keep
  have hK7 := hK6.trans pc.keep
  clear hK6
  go_wp2_with (refine wpl_load rfl 23 _ rfl (r0 + 1 + 1) rfl hb2 _ Tryd.undK rfl (by rw [l2]; exact Tryd.infoK) ?_)
  refine (HR.out.2.2.2.1 w7).mono ?_
  rintro e w8 ⟨rfl, hk8⟩
  replace hb2 := hb2.keep0 hk8
  replace pa := pa.keep0 hk8
  replace pb := pb.keep0 hk8
  replace pc := pc.keep0 hk8
  have hK8 := hK7.trans hk8
  clear hk8 hK7
  -- two values C, D (32 cells each) go into two new variables; the world before is w8
  obtain ⟨wa, hwa, hb1, hb2, hka, hsa⟩ := alloc2 w8 Z 23 Z 23
  subst hwa
  clear hka hsa
  go_wp2_with (first | (refine wpl_store rfl 23 _ _ rfl w8.heap.size rfl C rfl hb1 (by rw [HC.1, HZ.out]) (by rw [HC.1]; exact Tryd.infoK) HC.2 ?_))
  intro wb hb3 hk3 hs3
  clear hs3 hb1
  have hb4 := hb2.keep hk3 (fun e => by have e' : w8.heap.size + 1 = w8.heap.size := e; omega)
  clear hb2
  go_wp2_with (refine wpl_store rfl 23 _ _ rfl (w8.heap.size + 1) rfl D rfl hb4 (by rw [HD.1, HZ.out]) (by rw [HD.1]; exact Tryd.infoK) HD.2 ?_)
  intro w9 hb6 hk6 hs6
  clear hs6
  have pd := Pair.of hb3 hb6 hk3 hk6
  clear hb3 hk3 hb4 hb6 hk6
  generalize w8.heap.size = gd at *
  replace hb2 := hb2.keep0 pd.keep
  replace pa := pa.keep0 pd.keep
  replace pb := pb.keep0 pd.keep
  replace pc := pc.keep0 pd.keep
  have hK9 := hK8.trans pd.keep
  clear hK8
  have hUK := Tryd.undK
  have hIA : (Tryd.prog.info? 23).map (·.size) = some A.length := by rw [HA.1]; exact Tryd.infoK
  have hIB : (Tryd.prog.info? 23).map (·.size) = some B.length := by rw [HB.1]; exact Tryd.infoK
  have hIC : (Tryd.prog.info? 23).map (·.size) = some C.length := by rw [HC.1]; exact Tryd.infoK
  have hID : (Tryd.prog.info? 23).map (·.size) = some D.length := by rw [HD.1]; exact Tryd.infoK
  have hI2 : (Tryd.prog.info? 23).map (·.size) = some X2.length := by rw [l2]; exact Tryd.infoK
  have hS : ∀ w', Keeps Nil w9 w' → (w'.rangeAt ga 0 A ∧ w'.rangeAt (ga + 1) 0 B) ∧ (w'.rangeAt gb 0 A ∧ w'.rangeAt (gb + 1) 0 B) ∧ (w'.rangeAt gc 0 C ∧ w'.rangeAt (gc + 1) 0 D) ∧ (w'.rangeAt gd 0 C ∧ w'.rangeAt (gd + 1) 0 D) ∧ w'.rangeAt (r0 + 1 + 1) 0 X2 := fun w' hk =>
    ⟨⟨(pa.one.keep0 hk).range0, (pa.two.keep0 hk).range0⟩, ⟨(pb.one.keep0 hk).range0, (pb.two.keep0 hk).range0⟩, ⟨(pc.one.keep0 hk).range0, (pc.two.keep0 hk).range0⟩, ⟨(pd.one.keep0 hk).range0, (pd.two.keep0 hk).range0⟩, (hb2.keep0 hk).range0⟩
  have HS := Lib.hid hS
  have hkd : Keeps Nil w9 w9.drew := (Keeps.refl _ _).drew
  clear hS pa pb pc pd hb2
  go_wp2_with fail
  refine wp_region_held_drew (S := fun w' => (w'.rangeAt ga 0 A ∧ w'.rangeAt (ga + 1) 0 B) ∧ (w'.rangeAt gb 0 A ∧ w'.rangeAt (gb + 1) 0 B) ∧ (w'.rangeAt gc 0 C ∧ w'.rangeAt (gc + 1) 0 D) ∧ (w'.rangeAt gd 0 C ∧ w'.rangeAt (gd + 1) 0 D) ∧ w'.rangeAt (r0 + 1 + 1) 0 X2) (by kernel_rfl) (HS.out _ hkd) (fun hHeld => ?_)
  generalize w9.drew = v0 at *
  refine takeL (i := 0) (v := _) rfl (by kernel_rfl) (by kernel_rfl) (by kernel_rfl) (fun _ _ _ h => h) (Or.inl ⟨by rfl, by intro w hSw; (try dsimp only at hSw); go_simp; try with_reducible rfl⟩) (by assumption) ?_
  try simp only [Act.put, List.setIfInBounds_toArray, List.set_cons_zero, List.set_cons_succ]
  refine takeL (i := 1) (v := _) rfl (by kernel_rfl) (by kernel_rfl) (by kernel_rfl) (fun _ _ _ h => h) (Or.inl ⟨by rfl, by intro w hSw; (try dsimp only at hSw); go_simp; try with_reducible rfl⟩) (by assumption) ?_
  try simp only [Act.put, List.setIfInBounds_toArray, List.set_cons_zero, List.set_cons_succ]
  refine takeL (i := 2) (v := _) rfl (by kernel_rfl) (by kernel_rfl) (by kernel_rfl) (fun _ _ _ h => h) (yieldsIf_load_mid (by rfl) 23 _ rfl ga 0 rfl (A) _ (fun w hSw => hSw.1.1) hUK rfl hIA) (by assumption) ?_
  try simp only [Act.put, List.setIfInBounds_toArray, List.set_cons_zero, List.set_cons_succ]
  refine takeL (i := 3) (v := _) rfl (by kernel_rfl) (by kernel_rfl) (by kernel_rfl) (fun _ _ _ h => h) (yieldsIf_load_mid (by rfl) 23 _ rfl gb 0 rfl (A) _ (fun w hSw => hSw.2.1.1) hUK rfl hIA) (by assumption) ?_
  try simp only [Act.put, List.setIfInBounds_toArray, List.set_cons_zero, List.set_cons_succ]
  have hg := fun (V : List Value) (x y : Operand) (w : World) => Tryd.guardK .eql x y V.toArray V.toArray w
  refine takeL (i := 4) (v := _) rfl (by kernel_rfl) (by kernel_rfl) (by kernel_rfl) (fun _ _ _ h => h) (yieldsIf_bin (by rfl) _ _ _ _ _ rfl _ _ rfl rfl _ hqA (hg A _ _)) (by assumption) ?_
  try simp only [Act.put, List.setIfInBounds_toArray, List.set_cons_zero, List.set_cons_succ]
  refine takeL (i := 5) (v := _) rfl (by kernel_rfl) (by kernel_rfl) (by kernel_rfl) (fun _ _ _ h => h) (Or.inl ⟨by rfl, by intro w hSw; (try dsimp only at hSw); go_simp; try with_reducible rfl⟩) (by assumption) ?_
  try simp only [Act.put, List.setIfInBounds_toArray, List.set_cons_zero, List.set_cons_succ]
  refine takeL (i := 6) (v := _) rfl (by kernel_rfl) (by kernel_rfl) (by kernel_rfl) (fun _ _ _ h => h) (Or.inl ⟨by rfl, by intro w hSw; (try dsimp only at hSw); go_simp; try with_reducible rfl⟩) (by assumption) ?_
  try simp only [Act.put, List.setIfInBounds_toArray, List.set_cons_zero, List.set_cons_succ]
  refine takeL (i := 7) (v := _) rfl (by kernel_rfl) (by kernel_rfl) (by kernel_rfl) (fun _ _ _ h => h) (yieldsIf_load_mid (by rfl) 23 _ rfl (ga+1) 0 rfl (B) _ (fun w hSw => hSw.1.2) hUK rfl hIB) (by assumption) ?_
  try simp only [Act.put, List.setIfInBounds_toArray, List.set_cons_zero, List.set_cons_succ]
  refine takeL (i := 8) (v := _) rfl (by kernel_rfl) (by kernel_rfl) (by kernel_rfl) (fun _ _ _ h => h) (yieldsIf_load_mid (by rfl) 23 _ rfl (gb+1) 0 rfl (B) _ (fun w hSw => hSw.2.1.2) hUK rfl hIB) (by assumption) ?_
  try simp only [Act.put, List.setIfInBounds_toArray, List.set_cons_zero, List.set_cons_succ]
  refine takeL (i := 9) (v := _) rfl (by kernel_rfl) (by kernel_rfl) (by kernel_rfl) (fun _ _ _ h => h) (yieldsIf_bin (by rfl) _ _ _ _ _ rfl _ _ rfl rfl _ hqB (hg B _ _)) (by assumption) ?_
  try simp only [Act.put, List.setIfInBounds_toArray, List.set_cons_zero, List.set_cons_succ]
  refine takeL (i := 10) (v := _) rfl (by kernel_rfl) (by kernel_rfl) (by kernel_rfl) (fun _ _ _ h => h) (Or.inl ⟨by rfl, by intro w hSw; (try dsimp only at hSw); go_simp; try with_reducible rfl⟩) (by assumption) ?_
  try simp only [Act.put, List.setIfInBounds_toArray, List.set_cons_zero, List.set_cons_succ]
  refine takeL (i := 11) (v := _) rfl (by kernel_rfl) (by kernel_rfl) (by kernel_rfl) (fun _ _ _ h => h) (Or.inl ⟨by rfl, by intro w hSw; (try dsimp only at hSw); go_simp; try with_reducible rfl⟩) (by assumption) ?_
  try simp only [Act.put, List.setIfInBounds_toArray, List.set_cons_zero, List.set_cons_succ]
  refine takeL (i := 12) (v := _) rfl (by kernel_rfl) (by kernel_rfl) (by kernel_rfl) (fun _ _ _ h => h) (yieldsIf_load_mid (by rfl) 23 _ rfl gc 0 rfl (C) _ (fun w hSw => hSw.2.2.1.1) hUK rfl hIC) (by assumption) ?_
  try simp only [Act.put, List.setIfInBounds_toArray, List.set_cons_zero, List.set_cons_succ]
  refine takeL (i := 13) (v := _) rfl (by kernel_rfl) (by kernel_rfl) (by kernel_rfl) (fun _ _ _ h => h) (yieldsIf_load_mid (by rfl) 23 _ rfl gd 0 rfl (C) _ (fun w hSw => hSw.2.2.2.1.1) hUK rfl hIC) (by assumption) ?_
  try simp only [Act.put, List.setIfInBounds_toArray, List.set_cons_zero, List.set_cons_succ]
  refine takeL (i := 14) (v := _) rfl (by kernel_rfl) (by kernel_rfl) (by kernel_rfl) (fun _ _ _ h => h) (yieldsIf_bin (by rfl) _ _ _ _ _ rfl _ _ rfl rfl _ hqC (hg C _ _)) (by assumption) ?_
  try simp only [Act.put, List.setIfInBounds_toArray, List.set_cons_zero, List.set_cons_succ]
  refine takeL (i := 15) (v := _) rfl (by kernel_rfl) (by kernel_rfl) (by kernel_rfl) (fun _ _ _ h => h) (Or.inl ⟨by rfl, by intro w hSw; (try dsimp only at hSw); go_simp; try with_reducible rfl⟩) (by assumption) ?_
  try simp only [Act.put, List.setIfInBounds_toArray, List.set_cons_zero, List.set_cons_succ]
  refine takeL (i := 16) (v := _) rfl (by kernel_rfl) (by kernel_rfl) (by kernel_rfl) (fun _ _ _ h => h) (Or.inl ⟨by rfl, by intro w hSw; (try dsimp only at hSw); go_simp; try with_reducible rfl⟩) (by assumption) ?_
  try simp only [Act.put, List.setIfInBounds_toArray, List.set_cons_zero, List.set_cons_succ]
  refine takeL (i := 17) (v := _) rfl (by kernel_rfl) (by kernel_rfl) (by kernel_rfl) (fun _ _ _ h => h) (yieldsIf_load_mid (by rfl) 23 _ rfl (gc+1) 0 rfl (D) _ (fun w hSw => hSw.2.2.1.2) hUK rfl hID) (by assumption) ?_
  try simp only [Act.put, List.setIfInBounds_toArray, List.set_cons_zero, List.set_cons_succ]
  refine takeL (i := 18) (v := _) rfl (by kernel_rfl) (by kernel_rfl) (by kernel_rfl) (fun _ _ _ h => h) (yieldsIf_load_mid (by rfl) 23 _ rfl (gd+1) 0 rfl (D) _ (fun w hSw => hSw.2.2.2.1.2) hUK rfl hID) (by assumption) ?_
  try simp only [Act.put, List.setIfInBounds_toArray, List.set_cons_zero, List.set_cons_succ]
  refine takeL (i := 19) (v := _) rfl (by kernel_rfl) (by kernel_rfl) (by kernel_rfl) (fun _ _ _ h => h) (yieldsIf_bin (by rfl) _ _ _ _ _ rfl _ _ rfl rfl _ hqD (hg D _ _)) (by assumption) ?_
  try simp only [Act.put, List.setIfInBounds_toArray, List.set_cons_zero, List.set_cons_succ]
  refine takeL (i := 20) (v := _) rfl (by kernel_rfl) (by kernel_rfl) (by kernel_rfl) (fun _ _ _ h => h) (Or.inl ⟨by rfl, by intro w hSw; (try dsimp only at hSw); go_simp; try with_reducible rfl⟩) (by assumption) ?_
  try simp only [Act.put, List.setIfInBounds_toArray, List.set_cons_zero, List.set_cons_succ]
  refine takeL (i := 21) (v := _) rfl (by kernel_rfl) (by kernel_rfl) (by kernel_rfl) (fun _ _ _ h => h) (Or.inl ⟨by rfl, by intro w hSw; (try dsimp only at hSw); go_simp; try with_reducible rfl⟩) (by assumption) ?_
  try simp only [Act.put, List.setIfInBounds_toArray, List.set_cons_zero, List.set_cons_succ]
  refine takeL (i := 22) (v := _) rfl (by kernel_rfl) (by kernel_rfl) (by kernel_rfl) (fun _ _ _ h => h) (yieldsIf_load_mid (by rfl) 23 _ rfl (r0+1+1) 0 rfl (X2) _ (fun w hSw => hSw.2.2.2.2) hUK rfl hI2) (by assumption) ?_
  try simp only [Act.put, List.setIfInBounds_toArray, List.set_cons_zero, List.set_cons_succ]
  refine takeL (i := 23) (v := _) rfl (by kernel_rfl) (by kernel_rfl) (by kernel_rfl) (fun _ _ _ h => h) (Or.inl ⟨by rfl, by intro w hSw; (try dsimp only at hSw); go_simp; try with_reducible rfl⟩) (by assumption) ?_
  try simp only [Act.put, List.setIfInBounds_toArray, List.set_cons_zero, List.set_cons_succ]
  refine takeL (i := 25) (v := _) rfl (by kernel_rfl) (by kernel_rfl) (by kernel_rfl) (fun _ _ _ h => h) (yieldsIf_load_mid (by rfl) 23 _ rfl (r0+1+1) 0 rfl (X2) _ (fun w hSw => hSw.2.2.2.2) hUK rfl hI2) (by assumption) ?_
  try simp only [Act.put, List.setIfInBounds_toArray, List.set_cons_zero, List.set_cons_succ]
  refine takeL (i := 26) (v := _) rfl (by kernel_rfl) (by kernel_rfl) (by kernel_rfl) (fun _ _ _ h => h) (Or.inl ⟨by rfl, by intro w hSw; (try dsimp only at hSw); go_simp; try with_reducible rfl⟩) (by assumption) ?_
  try simp only [Act.put, List.setIfInBounds_toArray, List.set_cons_zero, List.set_cons_succ]
  refine onlyL (i := 24) rfl (by kernel_rfl) (fun K hK => ?_)
  go_simp
  refine (HR.out.2.2.2.2.1 v0).mono ?_
  rintro e va ⟨rfl, hka⟩
  have hkda := hkd.trans hka
  refine (fun hHeld => hK _ _ hHeld ?_) (HS.out _ hkda)
  clear hK
  try simp only [Act.put, List.setIfInBounds_toArray, List.set_cons_zero, List.set_cons_succ]
  refine onlyL (i := 27) rfl (by kernel_rfl) (fun K hK => ?_)
  go_simp
  refine (HR.out.2.2.2.2.2 va).mono ?_
  rintro e vb ⟨rfl, hkb⟩
  have hkdb := hkda.trans hkb
  refine (fun hHeld => hK _ _ hHeld ?_) (HS.out _ hkdb)
  clear hK
  try simp only [Act.put, List.setIfInBounds_toArray, List.set_cons_zero, List.set_cons_succ]
  refine takeL (i := 28) (v := _) rfl (by kernel_rfl) (by kernel_rfl) (by kernel_rfl) (fun _ _ _ h => h) (yieldsIf_bin (by rfl) _ _ _ _ _ rfl _ _ rfl rfl _ hqE (hg E _ _)) (by assumption) ?_
  try simp only [Act.put, List.setIfInBounds_toArray, List.set_cons_zero, List.set_cons_succ]
  refine takeL (i := 29) (v := _) rfl (by kernel_rfl) (by kernel_rfl) (by kernel_rfl) (fun _ _ _ h => h) (Or.inl ⟨by rfl, by intro w hSw; (try dsimp only at hSw); go_simp; try with_reducible rfl⟩) (by assumption) ?_
  try simp only [Act.put, List.setIfInBounds_toArray, List.set_cons_zero, List.set_cons_succ]
  refine takeL (i := 30) (v := _) rfl (by kernel_rfl) (by kernel_rfl) (by kernel_rfl) (fun _ _ _ h => h) (Or.inl ⟨by rfl, by intro w hSw; (try dsimp only at hSw); go_simp; try with_reducible rfl⟩) (by assumption) ?_
  try simp only [Act.put, List.setIfInBounds_toArray, List.set_cons_zero, List.set_cons_succ]
  refine wpAnyH_done (by kernel_rfl) ?_ _
  go_wp2_with fail
  go_ret
  exact ⟨by first | rfl | simp, hK9.trans hkdb⟩
end Go.Proofs.YtnkahfpinkgimaaDoor
