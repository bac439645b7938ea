/-
  Trees: a leaf, a node, how many are on the left; the program's and the document's.
-/
import Derived.Test.YtmbdldnldcgdjaaDoorLen
import Derived.Test.YtmbdldnldcgdjaaDoorMany
import Derived.Test.YtmbdldnldcgdjaaDoorRefSum
namespace Go.Proofs.YtmbdldnldcgdjaaDoor
set_option linter.unusedSimpArgs false
set_option linter.unusedVariables false
open Go.RowKit

theorem Tryd.infoH32 : (Tryd.prog.info? 26).map (·.size) = some 32 := by kernel_rfl
def Hash32 (l : List Int) : Prop := l.length = 32 ∧ AreB l
theorem pow_wrap {k : Nat} (h : k < 40) : RowKit.wrap64 (2 ^ k) = ((2 ^ k : Nat) : Int) := by
  have h1 := Nat.pow_le_pow_right (n := 2) (by omega) (show k ≤ 40 by omega)
  have h2 : (2 : Int) ^ k = ((2 ^ k : Nat) : Int) := by simp
  rw [h2]
  generalize (2 ^ k : Nat) = m at *
  unfold RowKit.wrap64
  omega
set_option maxHeartbeats 800000 in
/-- tree.Split. -/
theorem split_walk (n : Int) (w : World) (h1 : -1099511627776 ≤ n) (h2 : n ≤ 1099511627776) :
    Calls Tryd.prog 29 #[.int .i64 n] w fun e w' => e = .returned (.int .i64 (splitN n.toNat)) ∧ w = w' := by
  by_cases hn : n < 2
  · have hs : splitN n.toNat = 0 := splitN_small (by omega)
    have HS := Lib.hid hs
    clear hs
    go_enter Tryd.func29, Tryd.ntmps29
    go_wp2_with fail
    go_ret
    exact ⟨by rw [HS.out]; rfl, rfl⟩
  · have hs : splitN n.toNat = 2 ^ Nat.log2 (n.toNat - 1) := splitN_big (by omega)
    have hb := bitLen_eq (x := n.toNat - 1) (by omega) (by omega)
    have hl := log2_lt40 (n := n.toNat) (by omega) (by omega)
    have ht : (n - 1).toNat = n.toNat - 1 := by omega
    have HC := Lib.hid (len_walk (n - 1) w (by omega) (by omega))
    rw [ht, hb] at HC
    have HS := Lib.hid hs
    clear hs hb ht
    generalize Nat.log2 (n.toNat - 1) = k at *
    go_enter Tryd.func29, Tryd.ntmps29
    go_wp2_with fail
    refine HC.out.mono ?_
    rintro e w1 ⟨rfl, rfl⟩
    have HP := Lib.hid (pow_wrap hl)
    go_wp2_with fail
    go_ret
    exact ⟨by rw [HS.out, ← HP.out]; rfl, rfl⟩
set_option maxHeartbeats 800000 in
/-- The document's. -/
theorem refSplit_walk (n : Int) (w : World) (h1 : -1099511627776 ≤ n) (h2 : n ≤ 1099511627776) :
    Calls Tryd.prog 11 #[.int .i64 n] w fun e w' => e = .returned (.int .i64 (splitN n.toNat)) ∧ w = w' := by
  by_cases hn : n < 2
  · have hs : splitN n.toNat = 0 := splitN_small (by omega)
    have HS := Lib.hid hs
    clear hs
    go_enter Tryd.func11, Tryd.ntmps11
    go_wp2_with fail
    go_ret
    exact ⟨by rw [HS.out]; rfl, rfl⟩
  · obtain ⟨m, hm⟩ : ∃ m : Nat, m = n.toNat := ⟨_, rfl⟩
    have hnm : n = m := by omega
    rw [← hm]
    clear hm
    subst hnm
    have hm2 : 2 ≤ m := by omega
    have hm3 : m ≤ 1099511627776 := by omega
    have HST := Lib.hid (show (2 : Nat) ^ 0 < m from by omega)
    go_enter Tryd.func11, Tryd.ntmps11
    go_wp2_with fail
    go_loopw [3] (fun v wr => ∃ (k : Nat), v = .int .i64 k ∧ k < m ∧ Hid (∃ j : Nat, k = 2 ^ j) ∧ w = wr) (fun v _ => m - (intOf v).toNat)
    case atStart => exact ⟨1, rfl, by omega, Lib.hid ⟨0, rfl⟩, rfl⟩
    case round =>
      obtain ⟨k, rfl, hk, hj, rfl⟩ := hrel
      have hk1 : 1 ≤ k := by obtain ⟨j, hj⟩ := hj.out; rw [hj]; exact Nat.one_le_two_pow
      by_cases hlt : 2 * k < m
      · have hn : Hid (∃ j : Nat, 2 * k = 2 ^ j) := by
          obtain ⟨j, hj⟩ := hj.out
          exact Lib.hid ⟨j + 1, by rw [hj, Nat.pow_succ]; omega⟩
        clear hj
        have e1 : ((k : Int) < (m : Int) - (k : Int)) := by omega
        go_wp2_with fail
        exact ⟨⟨2 * k, by go_num, hlt, hn, by simp⟩, by simp [intOf]; omega⟩
      · have hs : splitN m = k := by
          obtain ⟨j, hj⟩ := hj.out
          rw [hj] at hlt hk ⊢
          exact splitN_eq hk (by omega)
        have HS := Lib.hid hs
        clear hs hj
        have e1 : ¬ ((k : Int) < (m : Int) - (k : Int)) := by omega
        go_wp2_with fail
        go_ret
        exact ⟨by rw [HS.out]; rfl, rfl⟩
/-- A slice of one's own out of a block that was just made. -/
theorem own_lit {w : World} {g n : Nat} {vs : List Value} {e : TypeId} (h : Blk w g vs e) (hn : vs.length = n) (hm : n ≤ 1000000) : Own w e 1 (some ⟨g, 0, none⟩) n n vs :=
  ⟨by omega, Nat.le_refl _, by unfold maxLen; omega, .inr ⟨g, [], rfl, by rw [List.append_nil]; exact h, by rw [List.append_nil]; omega⟩⟩
set_option maxRecDepth 20000 in
set_option maxHeartbeats 1600000 in
/-- tree.Node. -/
theorem node_walk {w : World} {l r : List Int} (hl : Hash32 l) (hr : Hash32 r) :
    Calls Tryd.prog 35 #[keyV l, keyV r] w fun e w' => e = .returned (keyV (nodeL l r)) ∧ Keeps Nil w w' := by
  have hzv := Tryd.zeroH32
  have HZ := Lib.hid (show (byteV z32).length = 32 by rw [byteV_len, z32_len])
  generalize byteV z32 = Z at *
  have hcl : (byteV (nodeL l r)).length = 32 := by rw [byteV_len]; exact nodeL_len _ _
  obtain ⟨wA, hwA, hbl, hbr, hbZ, hkA, hsA⟩ := alloc3 w (byteV l) 26 (byteV r) 26 Z 26
  have HWA := Lib.hid hwA
  clear hwA
  go_enter Tryd.func35, Tryd.ntmps35
  go_wp2_with fail
  rw [← HWA.out]
  clear HWA
  refine wp_region_held_drew (S := fun _ => True) (by kernel_rfl) trivial (fun hHeld => ?_)
  have hKB : Keeps Nil w wA.drew := hkA.drew
  replace hbl := hbl.drew
  replace hbr := hbr.drew
  replace hbZ := hbZ.drew
  generalize wA.drew = v0 at *
  clear hkA hsA
  generalize hr2' : w.heap.size + 1 = r2 at *
  generalize hr3' : r2 + 1 = r3 at *
  refine takeL (i := 1) (v := _) rfl (by kernel_rfl) (by kernel_rfl) (by kernel_rfl) (fun _ _ _ h => h) (Or.inl ⟨by rfl, by intro w hSw; (try dsimp only at hSw); go_simp; try with_reducible rfl⟩) (by assumption) ?_
  try simp only [Act.put, List.setIfInBounds_toArray, List.set_cons_zero, List.set_cons_succ]
  refine takeL (i := 2) (v := _) rfl (by kernel_rfl) (by kernel_rfl) (by kernel_rfl) (fun _ _ _ h => h) (Or.inl ⟨by rfl, by intro w hSw; (try dsimp only at hSw); go_simp; try with_reducible rfl⟩) (by assumption) ?_
  try simp only [Act.put, List.setIfInBounds_toArray, List.set_cons_zero, List.set_cons_succ]
  refine onlyL (i := 0) rfl (by kernel_rfl) (fun K hK => ?_)
  refine step_bsK rfl _ 5 1 _ rfl [.int .u8 1] Tryd.underlying65 Tryd.bs8 rfl (by decide) (by decide) (by simp [Act.eval]) (by simp [Value.cells]) ?_
  intro g1 w1 hg1 hp1 qk
  clear hg1
  replace hbl := hbl.keep0 qk
  replace hbr := hbr.keep0 qk
  replace hbZ := hbZ.keep0 qk
  replace hKB := hKB.trans qk
  clear qk
  refine (fun hHeld => hK _ _ hHeld ?_) (trivial)
  clear hK
  try simp only [Act.put, List.setIfInBounds_toArray, List.set_cons_zero, List.set_cons_succ]
  refine onlyL (i := 3) rfl (by kernel_rfl) (fun K hK => ?_)
  refine step_bsK rfl _ 65 3 _ rfl [.slice (some ⟨g1, 0, none⟩) 1 1, .slice (some ⟨w.heap.size, 0, none⟩) 32 32, .slice (some ⟨r2, 0, none⟩) 32 32] Tryd.underlying86 Tryd.bsSl rfl (by decide) (by decide) (by simp [Act.eval]) (by simp [Value.cells]) ?_
  intro g2 w2 hg2 hp2 qk
  clear hg2
  replace hbl := hbl.keep0 qk
  replace hbr := hbr.keep0 qk
  replace hbZ := hbZ.keep0 qk
  replace hKB := hKB.trans qk
  have hM := ManyB.three hp2 (PieceOk.some (c := 1) (Blk.row8 (T := 5) (l := [1]) (n := 1) (hp1.keep0 qk) (fun x hx => by rw [List.mem_singleton.1 hx]; decide) rfl (by omega))) (PieceOk.some (c := 32) (hbl.row8 hl.2 hl.1 (by omega))) (PieceOk.some (c := 32) (hbr.row8 hr.2 hr.1 (by omega)))
  clear qk hp1 hp2
  refine (fun hHeld => hK _ _ hHeld ?_) (trivial)
  clear hK
  try simp only [Act.put, List.setIfInBounds_toArray, List.set_cons_zero, List.set_cons_succ]
  refine onlyL (i := 4) rfl (by kernel_rfl) (fun K hK => ?_)
  go_simp
  refine (shaSum_walk (cap := 3) hM (by simp [hl.1, hr.1])).mono ?_
  rintro e w3 ⟨rfl, qk⟩
  rw [show digest [[1], l, r].flatten = nodeL l r by simp [nodeL]]
  replace hbZ := hbZ.keep0 qk
  replace hKB := hKB.trans qk
  have hone := byteV_one (nodeL l r)
  clear hM qk hbl hbr
  generalize hDD : nodeL l r = D at *
  have HD := Lib.hid hDD
  clear hDD
  refine (fun hHeld => hK _ _ hHeld ?_) (trivial)
  clear hK
  try simp only [Act.put, List.setIfInBounds_toArray, List.set_cons_zero, List.set_cons_succ]
  refine onlyL (i := 5) rfl (by kernel_rfl) (fun K hK => ?_)
  refine step_store rfl 26 _ _ rfl r3 rfl (byteV D) rfl hbZ (by rw [hcl, HZ.out]) (by rw [hcl]; exact Tryd.infoH) hone ?_
  intro w4 hb4 hk4 _
  refine (fun hHeld => hK _ _ hHeld ?_) (trivial)
  clear hK
  try simp only [Act.put, List.setIfInBounds_toArray, List.set_cons_zero, List.set_cons_succ]
  refine wpAnyH_done (by kernel_rfl) ?_ _
  go_wp2_with fail
  exact ret_blk Tryd.results35 r3 rfl hb4 _ Tryd.undH rfl (by rw [hcl]; exact Tryd.infoH) rfl ⟨by rw [HD.out], hKB.step hk4 (fun i hi => .inr (by rw [show i = r3 from hi]; omega))⟩
set_option maxRecDepth 20000 in
set_option maxHeartbeats 1600000 in
/-- The document's. -/
theorem refNode_walk {w : World} {l r : List Int} (hl : Hash32 l) (hr : Hash32 r) :
    Calls Tryd.prog 23 #[keyV l, keyV r] w fun e w' => e = .returned (keyV (nodeL l r)) ∧ Keeps Nil w w' := by
  have hzv := Tryd.zeroH32
  have HZ := Lib.hid (show (byteV z32).length = 32 by rw [byteV_len, z32_len])
  generalize byteV z32 = Z at *
  have hcl : (byteV (nodeL l r)).length = 32 := by rw [byteV_len]; exact nodeL_len _ _
  obtain ⟨wA, hwA, hbl, hbr, hbZ, hkA, hsA⟩ := alloc3 w (byteV l) 26 (byteV r) 26 Z 26
  have HWA := Lib.hid hwA
  clear hwA
  go_enter Tryd.func23, Tryd.ntmps23
  go_wp2_with fail
  rw [← HWA.out]
  clear HWA
  refine wp_region_held_drew (S := fun _ => True) (by kernel_rfl) trivial (fun hHeld => ?_)
  have hKB : Keeps Nil w wA.drew := hkA.drew
  replace hbl := hbl.drew
  replace hbr := hbr.drew
  replace hbZ := hbZ.drew
  generalize wA.drew = v0 at *
  clear hkA hsA
  generalize hr2' : w.heap.size + 1 = r2 at *
  generalize hr3' : r2 + 1 = r3 at *
  have hr3 : r3 < v0.heap.size := hbZ.lt
  refine takeL (i := 1) (v := _) rfl (by kernel_rfl) (by kernel_rfl) (by kernel_rfl) (fun _ _ _ h => h) (Or.inl ⟨by rfl, by intro w hSw; (try dsimp only at hSw); go_simp; try with_reducible rfl⟩) (by assumption) ?_
  try simp only [Act.put, List.setIfInBounds_toArray, List.set_cons_zero, List.set_cons_succ]
  refine takeL (i := 3) (v := _) rfl (by kernel_rfl) (by kernel_rfl) (by kernel_rfl) (fun _ _ _ h => h) (Or.inl ⟨by rfl, by intro w hSw; (try dsimp only at hSw); go_simp; try with_reducible rfl⟩) (by assumption) ?_
  try simp only [Act.put, List.setIfInBounds_toArray, List.set_cons_zero, List.set_cons_succ]
  refine onlyL (i := 0) rfl (by kernel_rfl) (fun K hK => ?_)
  refine step_bsK rfl _ 5 1 _ rfl [.int .u8 1] Tryd.underlying65 Tryd.bs8 rfl (by decide) (by decide) (by simp [Act.eval]) (by simp [Value.cells]) ?_
  intro g1 w1 hg1 hp1 qk
  have hg1' : v0.heap.size ≤ g1 := by omega
  clear hg1
  have hown := own_lit hp1 (n := 1) rfl (by omega)
  replace hbl := hbl.keep0 qk
  replace hbr := hbr.keep0 qk
  replace hbZ := hbZ.keep0 qk
  replace hKB := hKB.trans qk
  have hs1 := qk.size
  clear qk hp1
  refine (fun hHeld => hK _ _ hHeld ?_) (trivial)
  clear hK
  try simp only [Act.put, List.setIfInBounds_toArray, List.set_cons_zero, List.set_cons_succ]
  refine onlyL (i := 2) rfl (by kernel_rfl) (fun K hK => ?_)
  refine step_append rfl _ _ 65 rfl 5 1 1 Tryd.underlying65 Tryd.info8s (by omega) _ 1 1 [.int .u8 1] rfl hown ⟨w.heap.size, 0, none⟩ 32 32 (l.map (Value.int .u8)) rfl ((hbl.row8 hl.2 hl.1 (by omega)).src (fun h => by cases h)) (by omega) (by unfold maxLen; omega) (by omega) ?_
  intro g2 c2 w2 hown2 hk2 hf2
  have hg2 : v0.heap.size ≤ g2 := by
    rcases hf2 with h | h
    · rw [(blkOf_some _ _ _ _).1 h]; exact hg1'
    · omega
  have hfar : ∀ k, k < v0.heap.size → ¬ blkOf (some ⟨g1, 0, none⟩) k := fun k hk e => by have e' := (blkOf_some _ _ _ _).1 e; omega
  replace hbr := hbr.keep hk2 (hfar _ (by omega))
  replace hbZ := hbZ.keep hk2 (hfar _ hr3)
  replace hKB := hKB.step hk2 (fun i hi => .inr (by rw [(blkOf_some _ _ _ _).1 hi]; omega))
  have hs2 := hk2.size
  clear hown hk2 hf2 hfar hbl
  refine (fun hHeld => hK _ _ hHeld ?_) (trivial)
  clear hK
  try simp only [Act.put, List.setIfInBounds_toArray, List.set_cons_zero, List.set_cons_succ]
  refine onlyL (i := 4) rfl (by kernel_rfl) (fun K hK => ?_)
  refine step_append rfl _ _ 65 rfl 5 1 1 Tryd.underlying65 Tryd.info8s (by omega) _ c2 33 _ rfl hown2 ⟨r2, 0, none⟩ 32 32 (r.map (Value.int .u8)) rfl ((hbr.row8 hr.2 hr.1 (by omega)).src (fun h => by cases h)) (by omega) (by unfold maxLen; omega) (by omega) ?_
  intro g3 c3 w3 hown3 hk3 hf3
  have hr3x : Row .u8 w3 (some ⟨g3, 0, none⟩) 65 (1 :: (l ++ r)) := Own.row (l := 1 :: (l ++ r)) (by simpa [byteV] using hown3) (areB_wf (fun x hx => by
    rcases List.mem_cons.1 hx with rfl | hx
    · exact ⟨by omega, by omega⟩
    · rcases List.mem_append.1 hx with hx | hx
      · exact hl.2 x hx
      · exact hr.2 x hx))
  have hfar : ∀ k, k < v0.heap.size → ¬ blkOf (some ⟨g2, 0, none⟩) k := fun k hk e => by have e' := (blkOf_some _ _ _ _).1 e; omega
  replace hbZ := hbZ.keep hk3 (hfar _ hr3)
  have hvw : w.heap.size ≤ v0.heap.size := by omega
  replace hKB := hKB.step hk3 (fun i hi => .inr (by rw [(blkOf_some _ _ _ _).1 hi]; omega))
  clear hown2 hown3 hk3 hf3 hfar hbr
  refine (fun hHeld => hK _ _ hHeld ?_) (trivial)
  clear hK
  try simp only [Act.put, List.setIfInBounds_toArray, List.set_cons_zero, List.set_cons_succ]
  refine onlyL (i := 5) rfl (by kernel_rfl) (fun K hK => ?_)
  go_simp
  refine (refSum_walk (cap := c3) hr3x (by omega)).mono ?_
  rintro e w4 ⟨rfl, qk⟩
  rw [show digest (1 :: (l ++ r)) = nodeL l r from rfl]
  replace hbZ := hbZ.keep0 qk
  replace hKB := hKB.trans qk
  have hone := byteV_one (nodeL l r)
  clear hr3x qk
  generalize hDD : nodeL l r = D at *
  have HD := Lib.hid hDD
  clear hDD
  refine (fun hHeld => hK _ _ hHeld ?_) (trivial)
  clear hK
  try simp only [Act.put, List.setIfInBounds_toArray, List.set_cons_zero, List.set_cons_succ]
  refine onlyL (i := 6) rfl (by kernel_rfl) (fun K hK => ?_)
  refine step_store rfl 26 _ _ rfl r3 rfl (byteV D) rfl hbZ (by rw [hcl, HZ.out]) (by rw [hcl]; exact Tryd.infoH) hone ?_
  intro w5 hb4 hk4 _
  refine (fun hHeld => hK _ _ hHeld ?_) (trivial)
  clear hK
  try simp only [Act.put, List.setIfInBounds_toArray, List.set_cons_zero, List.set_cons_succ]
  refine wpAnyH_done (by kernel_rfl) ?_ _
  go_wp2_with fail
  exact ret_blk Tryd.results23 r3 rfl hb4 _ Tryd.undH rfl (by rw [hcl]; exact Tryd.infoH) rfl ⟨by rw [HD.out], hKB.step hk4 (fun i hi => .inr (by rw [show i = r3 from hi]; omega))⟩
end Go.Proofs.YtmbdldnldcgdjaaDoor
