/-
  What a path comes to: the program's.
-/
import Derived.Test.YtmbdldnldcgdjaaDoorProofRef
namespace Go.Proofs.YtmbdldnldcgdjaaDoor
set_option linter.unusedSimpArgs false
set_option linter.unusedVariables false
open Go.RowKit

set_option maxHeartbeats 800000 in
/-- proof.depth. -/
theorem depth_walk : ∀ (n i : Nat) (w : World), n ≤ 1048576 → i ≤ 1048576 → Calls Tryd.prog 27 #[.int .i64 i, .int .i64 n] w fun e w' => e = .returned (.int .i64 (depthN i n)) ∧ w = w' := fun n => by
  induction n using Nat.strongRecOn with
  | _ n ih =>
    intro i w hn hi
    by_cases h1 : n < 2
    · have hd := depthN_none (i := i) h1
      have h1' : (n : Int) < 2 := by omega
      rw [hd]
      clear ih
      go_enter Tryd.func27, Tryd.ntmps27
      go_wp2_with fail
      go_ret
      exact ⟨rfl, rfl⟩
    · have hs1 := splitN_pos (n := n) (by omega)
      have hs2 := splitN_lt (n := n) (by omega)
      have hL := fun hi => depthN_left (i := i) (n := n) (by omega) hi
      have hR := fun hi => depthN_right (i := i) (n := n) (by omega) hi
      have HS := Lib.hid (split_walk (n : Int) w (by omega) (by omega))
      rw [show ((n : Int)).toNat = n by omega] at HS
      generalize splitN n = k at *
      have hk0 : (1 : Int) ≤ k := by omega
      have hk1 : (k : Int) < n := by omega
      have hn2 : (2 : Int) ≤ n := by omega
      have hn3 : (n : Int) ≤ 1048576 := by omega
      by_cases hik : i < k
      · have HD := Lib.hid (hL hik)
        have HC := Lib.hid (ih k hs2 i w (by omega) hi)
        have hd := depthN_le k i
        have hik' : (i : Int) < k := by omega
        clear hL hR ih
        generalize depthN i k = d at *
        go_enter Tryd.func27, Tryd.ntmps27
        go_wp2_with fail
        refine HS.out.mono ?_
        rintro e w1 ⟨rfl, rfl⟩
        go_wp2_with fail
        refine HC.out.mono ?_
        rintro e w1 ⟨rfl, rfl⟩
        go_wp2_with fail
        go_ret
        rw [HD.out]
        exact ⟨by first | rfl | simp | (congr 2; omega), rfl⟩
      · have HD := Lib.hid (hR (by omega))
        have HC := Lib.hid (ih (n - k) (by omega) (i - k) w (by omega) (by omega))
        have hd := depthN_le (n - k) (i - k)
        have hik' : ¬ (i : Int) < k := by omega
        have h1 : (i : Int) - k = ((i - k : Nat) : Int) := by omega
        have h2 : (n : Int) - k = ((n - k : Nat) : Int) := by omega
        have HQ := Lib.hid (And.intro h1 h2)
        have hi0 : (0 : Int) ≤ i := by omega
        have hi1 : (i : Int) ≤ 1048576 := by omega
        clear hL hR ih h1 h2
        generalize depthN (i - k) (n - k) = d at *
        go_enter Tryd.func27, Tryd.ntmps27
        go_wp2_with fail
        refine HS.out.mono ?_
        rintro e w1 ⟨rfl, rfl⟩
        go_wp2_with fail
        rw [HQ.out.1, HQ.out.2]
        refine HC.out.mono ?_
        rintro e w1 ⟨rfl, rfl⟩
        go_wp2_with fail
        go_ret
        rw [HD.out]
        exact ⟨by first | rfl | simp | (congr 2; omega), rfl⟩
def UpP (w : World) (L : List Int) (e : Ending) (w' : World) : Prop := e = .returned (keyV L) ∧ Keeps Nil w w'
set_option maxRecDepth 100000 in
set_option maxHeartbeats 1600000 in
/-- proof.up. -/
theorem up_walk : ∀ (n i m : Nat) {w : World} {a : Option Addr} {cap : Nat} {P : List (List Int)} {X : List Int}, P.length = m → m = depthN i n → Hs w a P → m ≤ cap → cap ≤ 9223372036854775807 → n ≤ 1048576 → i ≤ 1048576 → Hash32 X →
    Calls Tryd.prog 28 #[keyV X, .int .i64 i, .int .i64 n, .slice a m cap] w (UpP w (upL X i n P)) := fun n => by
  induction n using Nat.strongRecOn with
  | _ n ih =>
    intro i m w a cap P X hPl hd h hc hc9 hn9 hi9 hX
    have hzv := Tryd.zeroH32
    have HZ := Lib.hid (show (byteV z32).length = 32 by rw [byteV_len, z32_len])
    generalize byteV z32 = Z at *
    obtain ⟨wA, hwA, hbX, hbZ, hkA, hsA⟩ := alloc2 w (byteV X) 26 Z 26
    have HWA := Lib.hid hwA
    have hXl : (byteV X).length = 32 := by rw [byteV_len]; exact hX.1
    have hUH := Tryd.undH
    have hiX : (Tryd.prog.info? 26).map (·.size) = some (byteV X).length := by rw [hXl]; exact Tryd.infoH
    by_cases h1 : n < 2
    · have hU := upL_none (leaf := X) (i := i) (path := P) h1
      rw [hU]
      have h1' : (n : Int) < 2 := by omega
      have hone := byteV_one X
      have HK := Lib.hid hkA
      have HG := Lib.hid (show ∀ i, One (w.heap.size + 1) i → Nil i ∨ w.heap.size ≤ i from fun i hi => .inr (by rw [show i = w.heap.size + 1 from hi]; omega))
      clear ih hwA hkA hsA hU h hPl hd hc
      unfold keyV
      go_enter Tryd.func28, Tryd.ntmps28
      go_wp2_with (first | (rw [← HWA.out]; refine wpl_load rfl 26 _ rfl w.heap.size rfl hbX _ hUH rfl hiX ?_) | (refine wpl_store rfl 26 _ _ rfl (w.heap.size + 1) rfl (byteV X) rfl hbZ (by rw [hXl, HZ.out]) hiX hone ?_))
      intro w3 hb3 hk3 _
      go_wp2_with fail
      exact ret_blk Tryd.results28 (w.heap.size + 1) rfl hb3 _ hUH rfl hiX rfl ⟨rfl, HK.out.step hk3 HG.out⟩
    · have hs1 := splitN_pos (n := n) (by omega)
      have hs2 := splitN_lt (n := n) (by omega)
      have hdL := fun hi => depthN_left (i := i) (n := n) (by omega) hi
      have hdR := fun hi => depthN_right (i := i) (n := n) (by omega) hi
      have hUL := fun hi => upL_left (leaf := X) (i := i) (n := n) (path := P) (by omega) hi
      have hUR := fun hi => upL_right (leaf := X) (i := i) (n := n) (path := P) (by omega) hi
      obtain ⟨q, rfl⟩ : ∃ q, m = q + 1 := ⟨m - 1, by
        have hp : 1 ≤ depthN i n := by
          by_cases hi : i < splitN n
          · rw [hdL hi]; omega
          · rw [hdR (by omega)]; omega
        omega⟩
      rw [hPl, Nat.add_sub_cancel] at hUL hUR
      obtain ⟨b, off, ha, hb, hrng⟩ := h.rng (by omega)
      subst ha
      have hld := rangeAt_keep (hrng q (by omega)) hkA (fun h => h)
      have hpq := h.are.at_ (i := q) (by omega)
      have hT := (h.take q).keep0 hkA
      have hlT : (P.take q).length = q := by rw [List.length_take]; omega
      have hiP : (Tryd.prog.info? 26).map (·.size) = some (byteV (P.getD q [])).length := by rw [byteV_len, hpq.1]; exact Tryd.infoH
      have HS := Lib.hid (fun w => split_walk (n : Int) w (by omega) (by omega))
      rw [show ((n : Int)).toNat = n by omega] at HS
      generalize P.take q = PT at *
      generalize P.getD q [] = pq at *
      generalize splitN n = k at *
      have hn0 : (2 : Int) ≤ n := by omega
      have hk0 : (1 : Int) ≤ k := by omega
      have hk1 : (k : Int) < n := by omega
      have hq0 : (0 : Int) ≤ q := by omega
      have hq1 : (q : Int) < cap := by omega
      have hq2 : (q : Int) ≤ cap := by omega
      obtain ⟨m, hm⟩ : ∃ m, m = q + 1 := ⟨_, rfl⟩
      have hm1 : (m : Int) - 1 = q := by omega
      have hm2 : (m : Int) ≤ cap := by omega
      have hm3 : q < m := by omega
      have hm4 : (q : Int) ≤ m := by omega
      rw [← hm]
      have HM := Lib.hid hm
      have hn3 : (n : Int) ≤ 1048576 := by omega
      have hi3 : (i : Int) ≤ 1048576 := by omega
      have hi4 : (0 : Int) ≤ i := by omega
      have hq4 : (q : Int) ≤ 1048576 := by
        have hp := depthN_le n i
        omega
      have HI := Lib.hid ih
      have hne1 : ¬ One (w.heap.size + 1) w.heap.size := fun e => by have e' : w.heap.size = w.heap.size + 1 := e; omega
      have hne2 : ¬ One (w.heap.size + 1) b := fun e => by have e' : b = w.heap.size + 1 := e; omega
      have HLT := Lib.hid hlT
      have HKA := Lib.hid hkA
      clear ih hrng h hb hlT hPl hwA hsA hkA hm hc
      by_cases hik : i < k
      · have hd2 := hdL hik
        have HD := Lib.hid (show q = depthN i k by have := HM.out; omega)
        have HU := Lib.hid (hUL hik)
        have hik' : (i : Int) < k := by omega
        have hl1 := upL_is hX i k PT
        have hRl := upL_is hX i n P
        clear hdL hdR hUL hUR hd hd2
        unfold keyV
        go_enter Tryd.func28, Tryd.ntmps28
        go_wp2_with fail
        rw [← HWA.out]
        refine (HS.out wA).mono ?_
        rintro e w1 ⟨rfl, rfl⟩
        clear HS
        go_wp2_with fail
        refine wp_region_held_drew (S := fun w' => Keeps (One (w.heap.size + 1)) wA.drew w') (by kernel_rfl) (Keeps.refl _ _) (fun hHeld => ?_)
        have hKB : Keeps Nil w wA.drew := HKA.out.drew
        replace hbX := hbX.drew
        replace hbZ := hbZ.drew
        replace hT := hT.keep0 (Keeps.refl Nil wA).drew
        replace hld := rangeAt_keep hld (Keeps.refl Nil wA).drew (fun h => h)
        clear HKA HWA
        generalize wA.drew = v0 at *
        refine takeL (i := 0) (v := _) rfl (by kernel_rfl) (by kernel_rfl) (by kernel_rfl) (fun _ _ _ h => h) (yieldsIf_load_mid (by rfl) 26 _ rfl w.heap.size 0 rfl (byteV X) _ (fun w hSw => ((hbX.keep hSw hne1).range0)) hUH rfl hiX) (by assumption) ?_
        try simp only [Act.put, List.setIfInBounds_toArray, List.set_cons_zero, List.set_cons_succ]
        refine takeL (i := 1) (v := _) rfl (by kernel_rfl) (by kernel_rfl) (by kernel_rfl) (fun _ _ _ h => h) (Or.inl ⟨by rfl, by intro w hSw; (try dsimp only at hSw); go_simp; try with_reducible rfl⟩) (by assumption) ?_
        try simp only [Act.put, List.setIfInBounds_toArray, List.set_cons_zero, List.set_cons_succ]
        refine takeL (i := 2) (v := _) rfl (by kernel_rfl) (by kernel_rfl) (by kernel_rfl) (fun _ _ _ h => h) (Or.inl ⟨by rfl, by intro w hSw; (try dsimp only at hSw); go_simp; try with_reducible rfl⟩) (by assumption) ?_
        try simp only [Act.put, List.setIfInBounds_toArray, List.set_cons_zero, List.set_cons_succ]
        refine takeL (i := 3) (v := _) rfl (by kernel_rfl) (by kernel_rfl) (by kernel_rfl) (fun _ _ _ h => h) (Or.inl ⟨by rfl, by intro w hSw; (try dsimp only at hSw); go_simp; try with_reducible rfl⟩) (by assumption) ?_
        try simp only [Act.put, List.setIfInBounds_toArray, List.set_cons_zero, List.set_cons_succ]
        refine takeL (i := 4) (v := _) rfl (by kernel_rfl) (by kernel_rfl) (by kernel_rfl) (fun _ _ _ h => h) (Or.inl ⟨by rfl, by intro w hSw; (try dsimp only at hSw); go_simp; try with_reducible rfl⟩) (by assumption) ?_
        try simp only [Act.put, List.setIfInBounds_toArray, List.set_cons_zero, List.set_cons_succ]
        refine takeL (i := 5) (v := _) rfl (by kernel_rfl) (by kernel_rfl) (by kernel_rfl) (fun _ _ _ h => h) (Or.inl ⟨by rfl, by intro w hSw; (try dsimp only at hSw); go_simp; try with_reducible rfl⟩) (by assumption) ?_
        try simp only [Act.put, List.setIfInBounds_toArray, List.set_cons_zero, List.set_cons_succ]
        refine takeL (i := 7) (v := _) rfl (by kernel_rfl) (by kernel_rfl) (by kernel_rfl) (fun _ _ _ h => h) (Or.inl ⟨by rfl, by intro w hSw; (try dsimp only at hSw); go_simp; try with_reducible rfl⟩) (by assumption) ?_
        try simp only [Act.put, List.setIfInBounds_toArray, List.set_cons_zero, List.set_cons_succ]
        refine takeL (i := 8) (v := _) rfl (by kernel_rfl) (by kernel_rfl) (by kernel_rfl) (fun _ _ _ h => h) (Or.inl ⟨by rfl, by intro w hSw; (try dsimp only at hSw); go_simp; try with_reducible rfl⟩) (by assumption) ?_
        try simp only [Act.put, List.setIfInBounds_toArray, List.set_cons_zero, List.set_cons_succ]
        refine takeL (i := 9) (v := _) rfl (by kernel_rfl) (by kernel_rfl) (by kernel_rfl) (fun _ _ _ h => h) (Or.inl ⟨by rfl, by intro w hSw; (try dsimp only at hSw); go_simp; try with_reducible rfl⟩) (by assumption) ?_
        try simp only [Act.put, List.setIfInBounds_toArray, List.set_cons_zero, List.set_cons_succ]
        refine takeL (i := 10) (v := _) rfl (by kernel_rfl) (by kernel_rfl) (by kernel_rfl) (fun _ _ _ h => h) (yieldsIf_load_mid (by rfl) 26 _ rfl b (off+q*32) rfl (byteV pq) _ (fun w hSw => (rangeAt_keep hld hSw hne2)) hUH rfl hiP) (by assumption) ?_
        try simp only [Act.put, List.setIfInBounds_toArray, List.set_cons_zero, List.set_cons_succ]
        have hSw : Keeps (One (w.heap.size + 1)) v0 v0 := Keeps.refl _ _
        refine onlyL (i := 6) rfl (by kernel_rfl) (fun K hK => ?_)
        go_simp
        refine (HI.out (k) (by omega) (i) q HLT.out HD.out hT (by omega) (by omega) (by omega) (by omega) hX).mono ?_
        rintro e w2 ⟨rfl, qk⟩
        have hbZ2 := hbZ.keep0 qk
        have hS2 := hSw.trans qk.nil
        replace hKB := hKB.trans qk
        clear qk hT hbX hld
        refine (fun hHeld => hK _ _ hHeld ?_) (hS2)
        clear hK
        try simp only [Act.put, List.setIfInBounds_toArray, List.set_cons_zero, List.set_cons_succ]
        refine onlyL (i := 11) rfl (by kernel_rfl) (fun K hK => ?_)
        go_simp
        refine (node_walk hl1 hpq).mono ?_
        rintro e w3 ⟨rfl, qk⟩
        rw [← HU.out]
        have hbZ3 := hbZ2.keep0 qk
        have hS3 := hS2.trans qk.nil
        replace hKB := hKB.trans qk
        clear qk hbZ2 hS2 hbZ
        refine (fun hHeld => hK _ _ hHeld ?_) (hS3)
        clear hK
        try simp only [Act.put, List.setIfInBounds_toArray, List.set_cons_zero, List.set_cons_succ]
        refine onlyL (i := 12) rfl (by kernel_rfl) (fun K hK => ?_)
        refine step_store rfl 26 _ _ rfl (w.heap.size + 1) rfl (byteV (upL X i n P)) rfl hbZ3 (by rw [byteV_len, hRl.1, HZ.out]) (by rw [byteV_len, hRl.1]; exact Tryd.infoH) (byteV_one _) ?_
        intro w5 hb4 hk4 _
        refine (fun hHeld => hK _ _ hHeld ?_) ((hS3.trans hk4))
        clear hK
        try simp only [Act.put, List.setIfInBounds_toArray, List.set_cons_zero, List.set_cons_succ]
        refine wpAnyH_done (by kernel_rfl) ?_ _
        go_wp2_with fail
        exact ret_blk Tryd.results28 (w.heap.size + 1) rfl hb4 _ hUH rfl (by rw [byteV_len, hRl.1]; exact Tryd.infoH) rfl ⟨rfl, hKB.step hk4 (fun i hi => .inr (by rw [show i = w.heap.size + 1 from hi]; omega))⟩
      · have hd2 := hdR (by omega)
        have HD := Lib.hid (show q = depthN (i - k) (n - k) by have := HM.out; omega)
        have HU := Lib.hid (hUR (by omega))
        have hik' : ¬ (i : Int) < k := by omega
        have hl1 := upL_is hX (i - k) (n - k) PT
        have hRl := upL_is hX i n P
        have h1 : IntKind.i64.wrap ((i : Int) - k) = ((i - k : Nat) : Int) := by rw [IntKind.wrap_i64]; omega
        have h2 : IntKind.i64.wrap ((n : Int) - k) = ((n - k : Nat) : Int) := by rw [IntKind.wrap_i64]; omega
        have HQ := Lib.hid (And.intro h1 h2)
        clear hdL hdR hUL hUR hd hd2 h1 h2
        unfold keyV
        go_enter Tryd.func28, Tryd.ntmps28
        go_wp2_with fail
        rw [← HWA.out]
        refine (HS.out wA).mono ?_
        rintro e w1 ⟨rfl, rfl⟩
        clear HS
        go_wp2_with fail
        refine wp_region_held_drew (S := fun w' => Keeps (One (w.heap.size + 1)) wA.drew w') (by kernel_rfl) (Keeps.refl _ _) (fun hHeld => ?_)
        have hKB : Keeps Nil w wA.drew := HKA.out.drew
        replace hbX := hbX.drew
        replace hbZ := hbZ.drew
        replace hT := hT.keep0 (Keeps.refl Nil wA).drew
        replace hld := rangeAt_keep hld (Keeps.refl Nil wA).drew (fun h => h)
        clear HKA HWA
        generalize wA.drew = v0 at *
        refine takeL (i := 0) (v := _) rfl (by kernel_rfl) (by kernel_rfl) (by kernel_rfl) (fun _ _ _ h => h) (Or.inl ⟨by rfl, by intro w hSw; (try dsimp only at hSw); go_simp; try with_reducible rfl⟩) (by assumption) ?_
        try simp only [Act.put, List.setIfInBounds_toArray, List.set_cons_zero, List.set_cons_succ]
        refine takeL (i := 1) (v := _) rfl (by kernel_rfl) (by kernel_rfl) (by kernel_rfl) (fun _ _ _ h => h) (Or.inl ⟨by rfl, by intro w hSw; (try dsimp only at hSw); go_simp; try with_reducible rfl⟩) (by assumption) ?_
        try simp only [Act.put, List.setIfInBounds_toArray, List.set_cons_zero, List.set_cons_succ]
        refine takeL (i := 2) (v := _) rfl (by kernel_rfl) (by kernel_rfl) (by kernel_rfl) (fun _ _ _ h => h) (Or.inl ⟨by rfl, by intro w hSw; (try dsimp only at hSw); go_simp; try with_reducible rfl⟩) (by assumption) ?_
        try simp only [Act.put, List.setIfInBounds_toArray, List.set_cons_zero, List.set_cons_succ]
        refine takeL (i := 3) (v := _) rfl (by kernel_rfl) (by kernel_rfl) (by kernel_rfl) (fun _ _ _ h => h) (yieldsIf_load_mid (by rfl) 26 _ rfl b (off+q*32) rfl (byteV pq) _ (fun w hSw => (rangeAt_keep hld hSw hne2)) hUH rfl hiP) (by assumption) ?_
        try simp only [Act.put, List.setIfInBounds_toArray, List.set_cons_zero, List.set_cons_succ]
        refine takeL (i := 4) (v := _) rfl (by kernel_rfl) (by kernel_rfl) (by kernel_rfl) (fun _ _ _ h => h) (yieldsIf_load_mid (by rfl) 26 _ rfl w.heap.size 0 rfl (byteV X) _ (fun w hSw => ((hbX.keep hSw hne1).range0)) hUH rfl hiX) (by assumption) ?_
        try simp only [Act.put, List.setIfInBounds_toArray, List.set_cons_zero, List.set_cons_succ]
        refine takeL (i := 5) (v := _) rfl (by kernel_rfl) (by kernel_rfl) (by kernel_rfl) (fun _ _ _ h => h) (Or.inl ⟨by rfl, by intro w hSw; (try dsimp only at hSw); go_simp; try with_reducible rfl⟩) (by assumption) ?_
        try simp only [Act.put, List.setIfInBounds_toArray, List.set_cons_zero, List.set_cons_succ]
        refine takeL (i := 6) (v := _) rfl (by kernel_rfl) (by kernel_rfl) (by kernel_rfl) (fun _ _ _ h => h) (Or.inl ⟨by rfl, by intro w hSw; (try dsimp only at hSw); go_simp; try with_reducible rfl⟩) (by assumption) ?_
        try simp only [Act.put, List.setIfInBounds_toArray, List.set_cons_zero, List.set_cons_succ]
        refine takeL (i := 7) (v := _) rfl (by kernel_rfl) (by kernel_rfl) (by kernel_rfl) (fun _ _ _ h => h) (Or.inl ⟨by rfl, by intro w hSw; (try dsimp only at hSw); go_simp; try with_reducible rfl⟩) (by assumption) ?_
        try simp only [Act.put, List.setIfInBounds_toArray, List.set_cons_zero, List.set_cons_succ]
        refine takeL (i := 8) (v := _) rfl (by kernel_rfl) (by kernel_rfl) (by kernel_rfl) (fun _ _ _ h => h) (Or.inl ⟨by rfl, by intro w hSw; (try dsimp only at hSw); go_simp; try with_reducible rfl⟩) (by assumption) ?_
        try simp only [Act.put, List.setIfInBounds_toArray, List.set_cons_zero, List.set_cons_succ]
        refine takeL (i := 9) (v := _) rfl (by kernel_rfl) (by kernel_rfl) (by kernel_rfl) (fun _ _ _ h => h) (Or.inl ⟨by rfl, by intro w hSw; (try dsimp only at hSw); go_simp; try with_reducible rfl⟩) (by assumption) ?_
        try simp only [Act.put, List.setIfInBounds_toArray, List.set_cons_zero, List.set_cons_succ]
        refine takeL (i := 10) (v := _) rfl (by kernel_rfl) (by kernel_rfl) (by kernel_rfl) (fun _ _ _ h => h) (Or.inl ⟨by rfl, by intro w hSw; (try dsimp only at hSw); go_simp; try with_reducible rfl⟩) (by assumption) ?_
        try simp only [Act.put, List.setIfInBounds_toArray, List.set_cons_zero, List.set_cons_succ]
        refine takeL (i := 11) (v := _) rfl (by kernel_rfl) (by kernel_rfl) (by kernel_rfl) (fun _ _ _ h => h) (Or.inl ⟨by rfl, by intro w hSw; (try dsimp only at hSw); go_simp; try with_reducible rfl⟩) (by assumption) ?_
        try simp only [Act.put, List.setIfInBounds_toArray, List.set_cons_zero, List.set_cons_succ]
        refine takeL (i := 12) (v := _) rfl (by kernel_rfl) (by kernel_rfl) (by kernel_rfl) (fun _ _ _ h => h) (Or.inl ⟨by rfl, by intro w hSw; (try dsimp only at hSw); go_simp; try with_reducible rfl⟩) (by assumption) ?_
        try simp only [Act.put, List.setIfInBounds_toArray, List.set_cons_zero, List.set_cons_succ]
        refine takeL (i := 13) (v := _) rfl (by kernel_rfl) (by kernel_rfl) (by kernel_rfl) (fun _ _ _ h => h) (Or.inl ⟨by rfl, by intro w hSw; (try dsimp only at hSw); go_simp; try with_reducible rfl⟩) (by assumption) ?_
        try simp only [Act.put, List.setIfInBounds_toArray, List.set_cons_zero, List.set_cons_succ]
        have hSw : Keeps (One (w.heap.size + 1)) v0 v0 := Keeps.refl _ _
        rw [HQ.out.1, HQ.out.2]
        refine onlyL (i := 14) rfl (by kernel_rfl) (fun K hK => ?_)
        go_simp
        refine (HI.out (n - k) (by omega) (i - k) q HLT.out HD.out hT (by omega) (by omega) (by omega) (by omega) hX).mono ?_
        rintro e w2 ⟨rfl, qk⟩
        have hbZ2 := hbZ.keep0 qk
        have hS2 := hSw.trans qk.nil
        replace hKB := hKB.trans qk
        clear qk hT hbX hld
        refine (fun hHeld => hK _ _ hHeld ?_) (hS2)
        clear hK
        try simp only [Act.put, List.setIfInBounds_toArray, List.set_cons_zero, List.set_cons_succ]
        refine onlyL (i := 15) rfl (by kernel_rfl) (fun K hK => ?_)
        go_simp
        refine (node_walk hpq hl1).mono ?_
        rintro e w3 ⟨rfl, qk⟩
        rw [← HU.out]
        have hbZ3 := hbZ2.keep0 qk
        have hS3 := hS2.trans qk.nil
        replace hKB := hKB.trans qk
        clear qk hbZ2 hS2 hbZ
        refine (fun hHeld => hK _ _ hHeld ?_) (hS3)
        clear hK
        try simp only [Act.put, List.setIfInBounds_toArray, List.set_cons_zero, List.set_cons_succ]
        refine onlyL (i := 16) rfl (by kernel_rfl) (fun K hK => ?_)
        refine step_store rfl 26 _ _ rfl (w.heap.size + 1) rfl (byteV (upL X i n P)) rfl hbZ3 (by rw [byteV_len, hRl.1, HZ.out]) (by rw [byteV_len, hRl.1]; exact Tryd.infoH) (byteV_one _) ?_
        intro w5 hb4 hk4 _
        refine (fun hHeld => hK _ _ hHeld ?_) ((hS3.trans hk4))
        clear hK
        try simp only [Act.put, List.setIfInBounds_toArray, List.set_cons_zero, List.set_cons_succ]
        refine wpAnyH_done (by kernel_rfl) ?_ _
        go_wp2_with fail
        exact ret_blk Tryd.results28 (w.heap.size + 1) rfl hb4 _ hUH rfl (by rw [byteV_len, hRl.1]; exact Tryd.infoH) rfl ⟨rfl, hKB.step hk4 (fun i hi => .inr (by rw [show i = w.heap.size + 1 from hi]; omega))⟩
end Go.Proofs.YtmbdldnldcgdjaaDoor
