/-
  TreeSays: leaves, nodes, splits, roots are the document's. (NOT FINISHED)
-/
import Derived.Test.YtmbdldnldcgdjaaTreeFirst
import Derived.Test.YtmbdldnldcgdjaaHashes
import Derived.Test.YtmbdldnldcgdjaaKeyOpen
namespace Go.Proofs.Ytmbdldnldcgdjaa
set_option linter.unusedSimpArgs false
set_option linter.unusedVariables false
open Go.RowKit

set_option maxRecDepth 20000 in
set_option maxHeartbeats 1600000 in
theorem treeSays_walk (a0 : Option Addr) (len0 cap0 : Nat) (z0 : List Int) (a1 : Option Addr) (len1 cap1 : Nat) (z1 x y : List Int) (n : Int) (w : World) (w0 : IsRow .i64 w a0 len0 cap0 z0) (w1 : IsRow .u8 w a1 len1 cap1 z1) (hx : Hash32 x) (hy : Hash32 y) (w4 : (Lit.int .i64 n).wf = true) :
    Calls Try.prog 3 #[.slice a0 len0 cap0, .slice a1 len1 cap1, .agg (byteV x).toArray, .agg (byteV y).toArray, .int .i64 n] w (TrueS w) := by
  have hw := i64_wf w4
  have hr0 := Row.of_isRow w0
  have hr1 := Row.of_isRow w1
  have hn1 := fun h => IsRow.nil w1 h
  obtain ⟨wA, hwA, hbx, hby, hkA, hsA⟩ := alloc2 w (byteV x) 25 (byteV y) 25
  have HWA := Lib.hid hwA
  have HX := Lib.hid (And.intro hbx (And.intro hby (And.intro hkA hsA)))
  have HR := Lib.hid (And.intro hr0 (And.intro hr1 hn1))
  clear hwA hbx hby hkA hsA hr0 hr1 hn1 w0 w1 w4
  by_cases hl : 60 < len0 ∨ 100 < len1
  · have hl2 : (60 : Int) < len0 ∨ (100 : Int) < len1 := by omega
    have hb : (decide ((60 : Int) < len0) || decide ((100 : Int) < len1)) = true := by simpa using hl2
    go_enter Try.func3, Try.ntmps3
    go_wp2_with fail
    rw [← HWA.out]
    refine (treefirst_walk wA).mono ?_
    rintro e w1 ⟨rfl, hk1⟩
    have hK := HX.out.2.2.1.trans hk1
    clear hl hl2 HX HR
    go_wp2_with fail
    all_goals first | (go_ret; exact ⟨by first | rfl | simp, hK⟩) | (exfalso; simp_all; omega)
  · have l0 : (len0 : Int) ≤ 60 := by omega
    have l1 : (len1 : Int) ≤ 100 := by omega
    clear hl
    go_enter Try.func3, Try.ntmps3
    go_wp2_with fail
    rw [← HWA.out]
    refine (treefirst_walk wA).mono ?_
    rintro e w1 ⟨rfl, hk1⟩
    go_wp2_with fail
    have hK1 := HX.out.2.2.1.trans hk1
    have hKs := hK1.alloc (.cells #[.slice a0 len0 cap0, .int .i64 0] 31)
    have hS : SeqAt (w1.alloc (.cells #[.slice a0 len0 cap0, .int .i64 0] 31)) w1.heap.size a0 len0 cap0 (z0.take len0) 0 := ⟨Blk.new w1 [.slice a0 len0 cap0, .int .i64 0] _, HR.out.1.keep hKs, fun h0 e => by
      obtain ⟨bb, off, ha, hbb, _⟩ := HR.out.1.cell h0
      rw [ha] at e
      have e' := (blkOf_some _ _ _ _).1 e
      have := hK1.size
      omega⟩
    have HH := Lib.hid (hashes_walk hS rfl 40 (by omega))
    have HK1 := Lib.hid hKs
    clear hS hK1 hKs
    refine HH.out.mono ?_
    rintro e w2 ⟨ah, ch, L, rfl, hO, hA, hL, hk2, hf⟩
    clear HH
    go_wp2_with fail
    refine (number_walk n 1099511627776 w2 hw.1 hw.2 (by omega) (by omega)).mono ?_
    rintro e w3 ⟨rfl, rfl⟩
    have hm0 : 0 ≤ n % 1099511627776 := Int.emod_nonneg _ (by omega)
    have hm1 : n % 1099511627776 < 1099511627776 := Int.emod_lt_of_pos _ (by omega)
    generalize n % 1099511627776 = m at *
    go_wp2_with fail
    have hgA : w.heap.size + 1 + 1 ≤ w1.heap.size := by have := HX.out.2.2.2; have := hk1.size; omega
    have hKv : Keeps Nil w w2 := HK1.out.step hk2 (fun i hi => .inr (by rw [show i = w1.heap.size from hi]; omega))
    have hbx := ((HX.out.1.keep0 hk1).alloc (.cells #[.slice a0 len0 cap0, .int .i64 0] 31)).keep hk2 (fun e => by have e' : w.heap.size = w1.heap.size := e; omega)
    have hby := ((HX.out.2.1.keep0 hk1).alloc (.cells #[.slice a0 len0 cap0, .int .i64 0] 31)).keep hk2 (fun e => by have e' : w.heap.size + 1 = w1.heap.size := e; omega)
    have hHs := Hs.own hO hA (by omega)
    have hch := hO.2.1
    have hcm := hO.2.2.1
    have hP : PieceOk w2 (a1, len1, cap1, z1.take len1) := ⟨HR.out.2.1.keep hKv, HR.out.2.2⟩
    refine wp_region_held_drew (S := fun w' => Keeps Nil w2.drew w') (by kernel_rfl) (Keeps.refl _ _) (fun hHeld => ?_)
    replace hKv := hKv.drew
    replace hbx := hbx.drew
    replace hby := hby.drew
    replace hHs := hHs.keep0 (Keeps.refl Nil w2).drew
    replace hP := hP.keep (Keeps.refl Nil w2).drew
    clear hO hA hk2 hf HX HR HK1 hk1 hgA
    generalize w2.drew = v0 at *
    have hUH := Try.undH
    have hiX : (Try.prog.info? 25).map (·.size) = some (byteV x).length := by rw [byteV_len, hx.1]; exact Try.infoH
    have hiY : (Try.prog.info? 25).map (·.size) = some (byteV y).length := by rw [byteV_len, hy.1]; exact Try.infoH
    have hg := fun (V U : List Value) (p q : Operand) (w : World) => Try.guardT .eql p q V.toArray U.toArray w
    have hq (l : List Int) (h : Hash32 l) (w : World) : (binOp .eql 25 (.agg (byteV l).toArray) (.agg (byteV l).toArray)).run Try.prog w = .ok (.bool true) w := by
      rw [Try.eqlDig h.1 h.1 h.2 h.2]; simp
    have hqL := hq (leafL (z1.take len1)) ⟨leafL_len _, leafL_bytes _⟩
    have hqN := hq (nodeL x y) ⟨nodeL_len _ _, nodeL_bytes _ _⟩
    have hqR := hq (rootL L) (rootL_is hHs.are)
    clear hq
    refine takeL (i := 0) (v := _) rfl (by kernel_rfl) (by kernel_rfl) (by kernel_rfl) (fun _ _ _ h => h) (Or.inl ⟨by rfl, by intro w hSw; (try dsimp only at hSw); go_simp; try with_reducible rfl⟩) (by assumption) ?_
    try simp only [Act.put, List.setIfInBounds_toArray, List.set_cons_zero, List.set_cons_succ]
    refine takeL (i := 1) (v := _) rfl (by kernel_rfl) (by kernel_rfl) (by kernel_rfl) (fun _ _ _ h => h) (Or.inl ⟨by rfl, by intro w hSw; (try dsimp only at hSw); go_simp; try with_reducible rfl⟩) (by assumption) ?_
    try simp only [Act.put, List.setIfInBounds_toArray, List.set_cons_zero, List.set_cons_succ]
    refine takeL (i := 2) (v := _) rfl (by kernel_rfl) (by kernel_rfl) (by kernel_rfl) (fun _ _ _ h => h) (Or.inl ⟨by rfl, by intro w hSw; (try dsimp only at hSw); go_simp; try with_reducible rfl⟩) (by assumption) ?_
    try simp only [Act.put, List.setIfInBounds_toArray, List.set_cons_zero, List.set_cons_succ]
    refine takeL (i := 4) (v := _) rfl (by kernel_rfl) (by kernel_rfl) (by kernel_rfl) (fun _ _ _ h => h) (Or.inl ⟨by rfl, by intro w hSw; (try dsimp only at hSw); go_simp; try with_reducible rfl⟩) (by assumption) ?_
    try simp only [Act.put, List.setIfInBounds_toArray, List.set_cons_zero, List.set_cons_succ]
    refine onlyL (i := 3) rfl (by kernel_rfl) (fun K hK => ?_)
    go_simp
    refine (leaf_walk hP (by omega)).mono ?_
    rintro e v1 ⟨rfl, qk⟩
    have k1 := qk
    refine (fun hHeld => hK _ _ hHeld ?_) (k1)
    clear hK
    try simp only [Act.put, List.setIfInBounds_toArray, List.set_cons_zero, List.set_cons_succ]
    refine onlyL (i := 5) rfl (by kernel_rfl) (fun K hK => ?_)
    go_simp
    refine (refLeaf_walk (hP.keep k1) (by omega)).mono ?_
    rintro e v2 ⟨rfl, qk⟩
    have k2 := k1.trans qk
    clear qk k1 hP
    refine (fun hHeld => hK _ _ hHeld ?_) (k2)
    clear hK
    try simp only [Act.put, List.setIfInBounds_toArray, List.set_cons_zero, List.set_cons_succ]
    refine takeL (i := 6) (v := _) rfl (by kernel_rfl) (by kernel_rfl) (by kernel_rfl) (fun _ _ _ h => h) (yieldsIf_bin (by rfl) _ _ _ _ _ rfl _ _ rfl rfl _ hqL (hg (byteV (leafL (z1.take len1))) (byteV (leafL (z1.take len1))) _ _)) (by assumption) ?_
    try simp only [Act.put, List.setIfInBounds_toArray, List.set_cons_zero, List.set_cons_succ]
    refine takeL (i := 7) (v := _) rfl (by kernel_rfl) (by kernel_rfl) (by kernel_rfl) (fun _ _ _ h => h) (Or.inl ⟨by rfl, by intro w hSw; (try dsimp only at hSw); go_simp; try with_reducible rfl⟩) (by assumption) ?_
    try simp only [Act.put, List.setIfInBounds_toArray, List.set_cons_zero, List.set_cons_succ]
    refine takeL (i := 8) (v := _) rfl (by kernel_rfl) (by kernel_rfl) (by kernel_rfl) (fun _ _ _ h => h) (Or.inl ⟨by rfl, by intro w hSw; (try dsimp only at hSw); go_simp; try with_reducible rfl⟩) (by assumption) ?_
    try simp only [Act.put, List.setIfInBounds_toArray, List.set_cons_zero, List.set_cons_succ]
    refine takeL (i := 9) (v := _) rfl (by kernel_rfl) (by kernel_rfl) (by kernel_rfl) (fun _ _ _ h => h) (yieldsIf_load_mid (by rfl) 25 _ rfl w.heap.size 0 rfl (byteV x) _ (fun w hSw => ((hbx.keep0 hSw).range0)) hUH rfl hiX) (by assumption) ?_
    try simp only [Act.put, List.setIfInBounds_toArray, List.set_cons_zero, List.set_cons_succ]
    refine takeL (i := 10) (v := _) rfl (by kernel_rfl) (by kernel_rfl) (by kernel_rfl) (fun _ _ _ h => h) (yieldsIf_load_mid (by rfl) 25 _ rfl (w.heap.size+1) 0 rfl (byteV y) _ (fun w hSw => ((hby.keep0 hSw).range0)) hUH rfl hiY) (by assumption) ?_
    try simp only [Act.put, List.setIfInBounds_toArray, List.set_cons_zero, List.set_cons_succ]
    refine takeL (i := 12) (v := _) rfl (by kernel_rfl) (by kernel_rfl) (by kernel_rfl) (fun _ _ _ h => h) (yieldsIf_load_mid (by rfl) 25 _ rfl w.heap.size 0 rfl (byteV x) _ (fun w hSw => ((hbx.keep0 hSw).range0)) hUH rfl hiX) (by assumption) ?_
    try simp only [Act.put, List.setIfInBounds_toArray, List.set_cons_zero, List.set_cons_succ]
    refine takeL (i := 13) (v := _) rfl (by kernel_rfl) (by kernel_rfl) (by kernel_rfl) (fun _ _ _ h => h) (yieldsIf_load_mid (by rfl) 25 _ rfl (w.heap.size+1) 0 rfl (byteV y) _ (fun w hSw => ((hby.keep0 hSw).range0)) hUH rfl hiY) (by assumption) ?_
    try simp only [Act.put, List.setIfInBounds_toArray, List.set_cons_zero, List.set_cons_succ]
    refine onlyL (i := 11) rfl (by kernel_rfl) (fun K hK => ?_)
    go_simp
    refine (node_walk hx hy).mono ?_
    rintro e v3 ⟨rfl, qk⟩
    have k3 := k2.trans qk
    clear qk k2
    refine (fun hHeld => hK _ _ hHeld ?_) (k3)
    clear hK
    try simp only [Act.put, List.setIfInBounds_toArray, List.set_cons_zero, List.set_cons_succ]
    refine onlyL (i := 14) rfl (by kernel_rfl) (fun K hK => ?_)
    go_simp
    refine (refNode_walk hx hy).mono ?_
    rintro e v4 ⟨rfl, qk⟩
    have k4 := k3.trans qk
    clear qk k3
    refine (fun hHeld => hK _ _ hHeld ?_) (k4)
    clear hK
    try simp only [Act.put, List.setIfInBounds_toArray, List.set_cons_zero, List.set_cons_succ]
    refine takeL (i := 15) (v := _) rfl (by kernel_rfl) (by kernel_rfl) (by kernel_rfl) (fun _ _ _ h => h) (yieldsIf_bin (by rfl) _ _ _ _ _ rfl _ _ rfl rfl _ hqN (hg (byteV (nodeL x y)) (byteV (nodeL x y)) _ _)) (by assumption) ?_
    try simp only [Act.put, List.setIfInBounds_toArray, List.set_cons_zero, List.set_cons_succ]
    refine takeL (i := 16) (v := _) rfl (by kernel_rfl) (by kernel_rfl) (by kernel_rfl) (fun _ _ _ h => h) (Or.inl ⟨by rfl, by intro w hSw; (try dsimp only at hSw); go_simp; try with_reducible rfl⟩) (by assumption) ?_
    try simp only [Act.put, List.setIfInBounds_toArray, List.set_cons_zero, List.set_cons_succ]
    refine takeL (i := 17) (v := _) rfl (by kernel_rfl) (by kernel_rfl) (by kernel_rfl) (fun _ _ _ h => h) (Or.inl ⟨by rfl, by intro w hSw; (try dsimp only at hSw); go_simp; try with_reducible rfl⟩) (by assumption) ?_
    try simp only [Act.put, List.setIfInBounds_toArray, List.set_cons_zero, List.set_cons_succ]
    refine takeL (i := 18) (v := _) rfl (by kernel_rfl) (by kernel_rfl) (by kernel_rfl) (fun _ _ _ h => h) (Or.inl ⟨by rfl, by intro w hSw; (try dsimp only at hSw); go_simp; try with_reducible rfl⟩) (by assumption) ?_
    try simp only [Act.put, List.setIfInBounds_toArray, List.set_cons_zero, List.set_cons_succ]
    refine takeL (i := 20) (v := _) rfl (by kernel_rfl) (by kernel_rfl) (by kernel_rfl) (fun _ _ _ h => h) (Or.inl ⟨by rfl, by intro w hSw; (try dsimp only at hSw); go_simp; try with_reducible rfl⟩) (by assumption) ?_
    try simp only [Act.put, List.setIfInBounds_toArray, List.set_cons_zero, List.set_cons_succ]
    refine onlyL (i := 19) rfl (by kernel_rfl) (fun K hK => ?_)
    go_simp
    refine (split_walk (m - 5) _ (by omega) (by omega)).mono ?_
    rintro e v5 ⟨rfl, rfl⟩
    refine (fun hHeld => hK _ _ hHeld ?_) (k4)
    clear hK
    try simp only [Act.put, List.setIfInBounds_toArray, List.set_cons_zero, List.set_cons_succ]
    refine onlyL (i := 21) rfl (by kernel_rfl) (fun K hK => ?_)
    go_simp
    refine (refSplit_walk (m - 5) _ (by omega) (by omega)).mono ?_
    rintro e v5 ⟨rfl, rfl⟩
    refine (fun hHeld => hK _ _ hHeld ?_) (k4)
    clear hK
    try simp only [Act.put, List.setIfInBounds_toArray, List.set_cons_zero, List.set_cons_succ]
    refine takeL (i := 22) (v := _) rfl (by kernel_rfl) (by kernel_rfl) (by kernel_rfl) (fun _ _ _ h => h) (Or.inl ⟨by rfl, by intro w hSw; (try dsimp only at hSw); go_simp; try with_reducible rfl⟩) (by assumption) ?_
    try simp only [Act.put, List.setIfInBounds_toArray, List.set_cons_zero, List.set_cons_succ]
    refine takeL (i := 23) (v := _) rfl (by kernel_rfl) (by kernel_rfl) (by kernel_rfl) (fun _ _ _ h => h) (Or.inl ⟨by rfl, by intro w hSw; (try dsimp only at hSw); go_simp; try with_reducible rfl⟩) (by assumption) ?_
    try simp only [Act.put, List.setIfInBounds_toArray, List.set_cons_zero, List.set_cons_succ]
    refine takeL (i := 24) (v := _) rfl (by kernel_rfl) (by kernel_rfl) (by kernel_rfl) (fun _ _ _ h => h) (Or.inl ⟨by rfl, by intro w hSw; (try dsimp only at hSw); go_simp; try with_reducible rfl⟩) (by assumption) ?_
    try simp only [Act.put, List.setIfInBounds_toArray, List.set_cons_zero, List.set_cons_succ]
    refine takeL (i := 25) (v := _) rfl (by kernel_rfl) (by kernel_rfl) (by kernel_rfl) (fun _ _ _ h => h) (Or.inl ⟨by rfl, by intro w hSw; (try dsimp only at hSw); go_simp; try with_reducible rfl⟩) (by assumption) ?_
    try simp only [Act.put, List.setIfInBounds_toArray, List.set_cons_zero, List.set_cons_succ]
    refine takeL (i := 27) (v := _) rfl (by kernel_rfl) (by kernel_rfl) (by kernel_rfl) (fun _ _ _ h => h) (Or.inl ⟨by rfl, by intro w hSw; (try dsimp only at hSw); go_simp; try with_reducible rfl⟩) (by assumption) ?_
    try simp only [Act.put, List.setIfInBounds_toArray, List.set_cons_zero, List.set_cons_succ]
    refine onlyL (i := 26) rfl (by kernel_rfl) (fun K hK => ?_)
    go_simp
    refine (root_walk L.length rfl (hHs.keep0 k4) hch (by unfold maxLen at hcm; omega)).mono ?_
    rintro e v6 ⟨rfl, qk⟩
    have k6 := k4.trans qk
    clear qk k4
    refine (fun hHeld => hK _ _ hHeld ?_) (k6)
    clear hK
    try simp only [Act.put, List.setIfInBounds_toArray, List.set_cons_zero, List.set_cons_succ]
    refine onlyL (i := 28) rfl (by kernel_rfl) (fun K hK => ?_)
    go_simp
    refine (refRoot_walk L.length rfl (hHs.keep0 k6) hch (by unfold maxLen at hcm; omega)).mono ?_
    rintro e v7 ⟨rfl, qk⟩
    have k7 := k6.trans qk
    clear qk k6
    refine (fun hHeld => hK _ _ hHeld ?_) (k7)
    clear hK
    try simp only [Act.put, List.setIfInBounds_toArray, List.set_cons_zero, List.set_cons_succ]
    refine takeL (i := 29) (v := _) rfl (by kernel_rfl) (by kernel_rfl) (by kernel_rfl) (fun _ _ _ h => h) (yieldsIf_bin (by rfl) _ _ _ _ _ rfl _ _ rfl rfl _ hqR (hg (byteV (rootL L)) (byteV (rootL L)) _ _)) (by assumption) ?_
    try simp only [Act.put, List.setIfInBounds_toArray, List.set_cons_zero, List.set_cons_succ]
    refine takeL (i := 30) (v := _) rfl (by kernel_rfl) (by kernel_rfl) (by kernel_rfl) (fun _ _ _ h => h) (Or.inl ⟨by rfl, by intro w hSw; (try dsimp only at hSw); go_simp; try with_reducible rfl⟩) (by assumption) ?_
    try simp only [Act.put, List.setIfInBounds_toArray, List.set_cons_zero, List.set_cons_succ]
    refine takeL (i := 31) (v := _) rfl (by kernel_rfl) (by kernel_rfl) (by kernel_rfl) (fun _ _ _ h => h) (Or.inl ⟨by rfl, by intro w hSw; (try dsimp only at hSw); go_simp; try with_reducible rfl⟩) (by assumption) ?_
    try simp only [Act.put, List.setIfInBounds_toArray, List.set_cons_zero, List.set_cons_succ]
    refine wpAnyH_done (by kernel_rfl) ?_ _
    go_wp2_with fail
    go_ret
    exact ⟨by first | rfl | simp, hKv.trans k7⟩
end Go.Proofs.Ytmbdldnldcgdjaa
