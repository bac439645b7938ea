/-
  Trees: the root, the program's and the document's.
-/
import Derived.Test.YtmbdldnldcgdjaaDoorTree
namespace Go.Proofs.YtmbdldnldcgdjaaDoor
set_option linter.unusedSimpArgs false
set_option linter.unusedVariables false
open Go.RowKit

theorem AreH.at32 {l : List (List Int)} (h : AreH l) {i : Nat} (hi : i < l.length) : (byteV (l.getD i [])).length = 32 := by rw [byteV_len]; exact (h.at_ hi).1
set_option maxRecDepth 20000 in
set_option maxHeartbeats 1600000 in
/-- tree.Root. -/
theorem root_walk : ∀ (n : Nat) {w : World} {a : Option Addr} {cap : Nat} {l : List (List Int)}, l.length = n → Hs w a l → n ≤ cap → cap ≤ 9223372036854775807 →
    Calls Tryd.prog 30 #[.slice a n cap] w fun e w' => e = .returned (keyV (rootL l)) ∧ Keeps Nil w w' := fun n => by
  induction n using Nat.strongRecOn with
  | _ n ih =>
    intro w a cap l hn h hc hc9
    have hzv := Tryd.zeroH32
    have HZ := Lib.hid (show (byteV z32).length = 32 by rw [byteV_len, z32_len])
    generalize byteV z32 = Z at *
    have hcl : (byteV (rootL l)).length = 32 := by rw [byteV_len]; exact (rootL_is h.are).1
    have hbZ := Blk.new w Z 26
    have hkA := (Keeps.refl Nil w).alloc (.cells Z.toArray 26)
    have hone := byteV_one (rootL l)
    by_cases h0 : n = 0
    · have hl : l = [] := List.eq_nil_of_length_eq_zero (by omega)
      subst h0
      have HC := Lib.hid (shaSum_walk (cap := 0) (ManyB.nil (w.alloc (.cells Z.toArray 26))) (by simp))
      rw [show digest ([] : List (List Int)).flatten = rootL l by rw [hl, rootL_none]; rfl] at HC
      clear hn h hc ih hl
      generalize hDD : rootL l = D at *
      have HD := Lib.hid hDD
      clear hDD
      go_enter Tryd.func30, Tryd.ntmps30
      go_wp2_with fail
      refine HC.out.mono ?_
      rintro e w3 ⟨rfl, hk3⟩
      have hbB := hbZ.keep0 hk3
      have hK3 := hkA.trans hk3
      clear hbZ hkA hk3
      go_wp2_with (refine wpl_store rfl 26 _ _ rfl w.heap.size rfl (byteV D) rfl hbB (by rw [hcl, HZ.out]) (by rw [hcl]; exact Tryd.infoH) hone ?_)
      intro w4 hb4 hk4 _
      go_wp2_with fail
      exact ret_blk Tryd.results30 w.heap.size rfl hb4 _ Tryd.undH rfl (by rw [hcl]; exact Tryd.infoH) rfl ⟨rfl, hK3.step hk4 (fun i hi => .inr (by rw [show i = w.heap.size from hi]; exact Nat.le_refl _))⟩
    · obtain ⟨b, off, ha, hb, hr⟩ := h.rng (by omega)
      subst ha
      by_cases h1 : n = 1
      · subst h1
        have hR := rootL_one hn
        have hld := rangeAt_keep (hr 0 (by omega)) hkA (fun h => h)
        rw [← hR] at hld
        clear hR hn h ih hr
        generalize hDD : rootL l = D at *
        have HD := Lib.hid hDD
        clear hDD
        go_enter Tryd.func30, Tryd.ntmps30
        go_wp2_with (first | (refine wpl_load_at rfl 26 _ rfl b (off + 0 * 32) rfl (byteV D) hld _ Tryd.undH rfl (by rw [hcl]; exact Tryd.infoH) ?_) | (refine wpl_store rfl 26 _ _ rfl w.heap.size rfl (byteV D) rfl hbZ (by rw [hcl, HZ.out]) (by rw [hcl]; exact Tryd.infoH) hone ?_))
        intro w4 hb4 hk4 _
        go_wp2_with fail
        exact ret_blk Tryd.results30 w.heap.size rfl hb4 _ Tryd.undH rfl (by rw [hcl]; exact Tryd.infoH) rfl ⟨rfl, hkA.step hk4 (fun i hi => .inr (by rw [show i = w.heap.size from hi]; exact Nat.le_refl _))⟩
      · have hR := rootL_more (l := l) (by omega)
        rw [hn] at hR
        have hs1 := splitN_pos (n := n) (by omega)
        have hs2 := splitN_lt (n := n) (by omega)
        have hm := h.most
        have HS := Lib.hid (split_walk (n : Int) (w.alloc (.cells Z.toArray 26)) (by omega) (by omega))
        rw [show ((n : Int)).toNat = n by omega] at HS
        have hT := h.take (splitN n)
        have hD := h.drop (splitN n)
        rw [Addr.add_lit] at hD
        have hlT : (l.take (splitN n)).length = splitN n := by rw [List.length_take]; omega
        have hlD : (l.drop (splitN n)).length = n - splitN n := by rw [List.length_drop]; omega
        generalize l.take (splitN n) = lT at *
        generalize l.drop (splitN n) = lD at *
        generalize splitN n = k at *
        have hn0 : (2 : Int) ≤ n := by omega
        have HI := Lib.hid ih
        have HR := Lib.hid hR
        have HLL := Lib.hid (And.intro hlT hlD)
        clear ih hR hlT hlD h hr hn hm
        go_enter Tryd.func30, Tryd.ntmps30
        go_wp2_with fail
        refine HS.out.mono ?_
        rintro e w1 ⟨rfl, rfl⟩
        have hT := hT.keep0 hkA
        have hD := hD.keep0 hkA
        clear HS
        generalize hsz : w.heap.size = g0 at *
        have hgw : w.heap.size ≤ g0 := by omega
        clear hsz
        generalize w.alloc (.cells Z.toArray 26) = v1 at *
        go_wp2_with fail
        refine wp_region_held_drew (S := fun _ => True) (by kernel_rfl) trivial (fun hHeld => ?_)
        have hKB : Keeps Nil w v1.drew := hkA.drew
        replace hbZ := hbZ.drew
        replace hT := hT.keep0 (Keeps.refl Nil v1).drew
        replace hD := hD.keep0 (Keeps.refl Nil v1).drew
        generalize v1.drew = v0 at *
        clear hkA
        have hk0 : (0 : Int) ≤ k := by omega
        have hk1 : (k : Int) ≤ n := by omega
        have hk2 : (k : Int) ≤ cap := by omega
        have hk3 : (n : Int) ≤ cap := by omega
        refine takeL (i := 0) (v := _) rfl (by kernel_rfl) (by kernel_rfl) (by kernel_rfl) (fun _ _ _ h => h) (Or.inl ⟨by rfl, by intro w hSw; (try dsimp only at hSw); go_simp; try with_reducible rfl⟩) (by assumption) ?_
        try simp only [Act.put, List.setIfInBounds_toArray, List.set_cons_zero, List.set_cons_succ]
        refine takeL (i := 1) (v := _) rfl (by kernel_rfl) (by kernel_rfl) (by kernel_rfl) (fun _ _ _ h => h) (Or.inl ⟨by rfl, by intro w hSw; (try dsimp only at hSw); go_simp; try with_reducible rfl⟩) (by assumption) ?_
        try simp only [Act.put, List.setIfInBounds_toArray, List.set_cons_zero, List.set_cons_succ]
        refine takeL (i := 2) (v := _) rfl (by kernel_rfl) (by kernel_rfl) (by kernel_rfl) (fun _ _ _ h => h) (Or.inl ⟨by rfl, by intro w hSw; (try dsimp only at hSw); go_simp; try with_reducible rfl⟩) (by assumption) ?_
        try simp only [Act.put, List.setIfInBounds_toArray, List.set_cons_zero, List.set_cons_succ]
        refine takeL (i := 4) (v := _) rfl (by kernel_rfl) (by kernel_rfl) (by kernel_rfl) (fun _ _ _ h => h) (Or.inl ⟨by rfl, by intro w hSw; (try dsimp only at hSw); go_simp; try with_reducible rfl⟩) (by assumption) ?_
        try simp only [Act.put, List.setIfInBounds_toArray, List.set_cons_zero, List.set_cons_succ]
        refine takeL (i := 5) (v := _) rfl (by kernel_rfl) (by kernel_rfl) (by kernel_rfl) (fun _ _ _ h => h) (Or.inl ⟨by rfl, by intro w hSw; (try dsimp only at hSw); go_simp; try with_reducible rfl⟩) (by assumption) ?_
        try simp only [Act.put, List.setIfInBounds_toArray, List.set_cons_zero, List.set_cons_succ]
        refine takeL (i := 6) (v := _) rfl (by kernel_rfl) (by kernel_rfl) (by kernel_rfl) (fun _ _ _ h => h) (Or.inl ⟨by rfl, by intro w hSw; (try dsimp only at hSw); go_simp; try with_reducible rfl⟩) (by assumption) ?_
        try simp only [Act.put, List.setIfInBounds_toArray, List.set_cons_zero, List.set_cons_succ]
        have hD' : Hs v0 (if cap = k then some ⟨b, off, none⟩ else some ⟨b, off + k * 32, none⟩) lD := by rw [if_neg (by omega)]; exact hD
        have ha1 := rootL_is hT.are
        have ha2 := rootL_is hD.are
        generalize (if cap = k then (some ⟨b, off, none⟩ : Option Addr) else some ⟨b, off + k * 32, none⟩) = aD at *
        clear hD hb
        refine onlyL (i := 3) rfl (by kernel_rfl) (fun K hK => ?_)
        go_simp
        refine (HI.out k hs2 HLL.out.1 hT (by omega) hc9).mono ?_
        rintro e w2 ⟨rfl, qk⟩
        replace hD' := hD'.keep0 qk
        replace hbZ := hbZ.keep0 qk
        replace hKB := hKB.trans qk
        clear hT qk
        refine (fun hHeld => hK _ _ hHeld ?_) (trivial)
        clear hK
        try simp only [Act.put, List.setIfInBounds_toArray, List.set_cons_zero, List.set_cons_succ]
        refine onlyL (i := 7) rfl (by kernel_rfl) (fun K hK => ?_)
        go_simp
        refine (HI.out (n - k) (by omega) HLL.out.2 hD' (by omega) (by omega)).mono ?_
        rintro e w3 ⟨rfl, qk⟩
        replace hbZ := hbZ.keep0 qk
        replace hKB := hKB.trans qk
        clear hD' qk
        refine (fun hHeld => hK _ _ hHeld ?_) (trivial)
        clear hK
        try simp only [Act.put, List.setIfInBounds_toArray, List.set_cons_zero, List.set_cons_succ]
        refine onlyL (i := 8) rfl (by kernel_rfl) (fun K hK => ?_)
        go_simp
        refine (node_walk ha1 ha2).mono ?_
        rintro e w4 ⟨rfl, qk⟩
        rw [← HR.out]
        replace hbZ := hbZ.keep0 qk
        replace hKB := hKB.trans qk
        clear qk
        refine (fun hHeld => hK _ _ hHeld ?_) (trivial)
        clear hK
        try simp only [Act.put, List.setIfInBounds_toArray, List.set_cons_zero, List.set_cons_succ]
        refine onlyL (i := 9) rfl (by kernel_rfl) (fun K hK => ?_)
        refine step_store rfl 26 _ _ rfl g0 rfl (byteV (rootL l)) rfl hbZ (by rw [hcl, HZ.out]) (by rw [hcl]; exact Tryd.infoH) hone ?_
        intro w5 hb4 hk4 _
        refine (fun hHeld => hK _ _ hHeld ?_) (trivial)
        clear hK
        try simp only [Act.put, List.setIfInBounds_toArray, List.set_cons_zero, List.set_cons_succ]
        refine wpAnyH_done (by kernel_rfl) ?_ _
        go_wp2_with fail
        exact ret_blk Tryd.results30 g0 rfl hb4 _ Tryd.undH rfl (by rw [hcl]; exact Tryd.infoH) rfl ⟨rfl, hKB.step hk4 (fun i hi => .inr (by rw [show i = g0 from hi]; exact hgw))⟩
set_option maxRecDepth 20000 in
set_option maxHeartbeats 1600000 in
/-- The document's. -/
theorem refRoot_walk : ∀ (n : Nat) {w : World} {a : Option Addr} {cap : Nat} {l : List (List Int)}, l.length = n → Hs w a l → n ≤ cap → cap ≤ 9223372036854775807 →
    Calls Tryd.prog 12 #[.slice a n cap] w fun e w' => e = .returned (keyV (rootL l)) ∧ Keeps Nil w w' := fun n => by
  induction n using Nat.strongRecOn with
  | _ n ih =>
    intro w a cap l hn h hc hc9
    have hzv := Tryd.zeroH32
    have HZ := Lib.hid (show (byteV z32).length = 32 by rw [byteV_len, z32_len])
    generalize byteV z32 = Z at *
    have hcl : (byteV (rootL l)).length = 32 := by rw [byteV_len]; exact (rootL_is h.are).1
    have hbZ := Blk.new w Z 26
    have hkA := (Keeps.refl Nil w).alloc (.cells Z.toArray 26)
    have hone := byteV_one (rootL l)
    by_cases h0 : n = 0
    · have hl : l = [] := List.eq_nil_of_length_eq_zero (by omega)
      subst h0
      have HC := Lib.hid (refSum_walk (cap := 0) (row_none (w.alloc (.cells Z.toArray 26))) (by omega))
      rw [show digest [] = rootL l by rw [hl, rootL_none]] at HC
      clear hn h hc ih hl
      generalize hDD : rootL l = D at *
      have HD := Lib.hid hDD
      clear hDD
      go_enter Tryd.func12, Tryd.ntmps12
      go_wp2_with fail
      refine HC.out.mono ?_
      rintro e w3 ⟨rfl, hk3⟩
      have hbB := hbZ.keep0 hk3
      have hK3 := hkA.trans hk3
      clear hbZ hkA hk3
      go_wp2_with (refine wpl_store rfl 26 _ _ rfl w.heap.size rfl (byteV D) rfl hbB (by rw [hcl, HZ.out]) (by rw [hcl]; exact Tryd.infoH) hone ?_)
      intro w4 hb4 hk4 _
      go_wp2_with fail
      exact ret_blk Tryd.results12 w.heap.size rfl hb4 _ Tryd.undH rfl (by rw [hcl]; exact Tryd.infoH) rfl ⟨rfl, hK3.step hk4 (fun i hi => .inr (by rw [show i = w.heap.size from hi]; exact Nat.le_refl _))⟩
    · obtain ⟨b, off, ha, hb, hr⟩ := h.rng (by omega)
      subst ha
      by_cases h1 : n = 1
      · subst h1
        have hR := rootL_one hn
        have hld := rangeAt_keep (hr 0 (by omega)) hkA (fun h => h)
        rw [← hR] at hld
        clear hR hn h ih hr
        generalize hDD : rootL l = D at *
        have HD := Lib.hid hDD
        clear hDD
        go_enter Tryd.func12, Tryd.ntmps12
        go_wp2_with (first | (refine wpl_load_at rfl 26 _ rfl b (off + 0 * 32) rfl (byteV D) hld _ Tryd.undH rfl (by rw [hcl]; exact Tryd.infoH) ?_) | (refine wpl_store rfl 26 _ _ rfl w.heap.size rfl (byteV D) rfl hbZ (by rw [hcl, HZ.out]) (by rw [hcl]; exact Tryd.infoH) hone ?_))
        intro w4 hb4 hk4 _
        go_wp2_with fail
        exact ret_blk Tryd.results12 w.heap.size rfl hb4 _ Tryd.undH rfl (by rw [hcl]; exact Tryd.infoH) rfl ⟨rfl, hkA.step hk4 (fun i hi => .inr (by rw [show i = w.heap.size from hi]; exact Nat.le_refl _))⟩
      · have hR := rootL_more (l := l) (by omega)
        rw [hn] at hR
        have hs1 := splitN_pos (n := n) (by omega)
        have hs2 := splitN_lt (n := n) (by omega)
        have hm := h.most
        have HS := Lib.hid (refSplit_walk (n : Int) (w.alloc (.cells Z.toArray 26)) (by omega) (by omega))
        rw [show ((n : Int)).toNat = n by omega] at HS
        have hT := h.take (splitN n)
        have hD := h.drop (splitN n)
        rw [Addr.add_lit] at hD
        have hlT : (l.take (splitN n)).length = splitN n := by rw [List.length_take]; omega
        have hlD : (l.drop (splitN n)).length = n - splitN n := by rw [List.length_drop]; omega
        generalize l.take (splitN n) = lT at *
        generalize l.drop (splitN n) = lD at *
        generalize splitN n = k at *
        have hn0 : (2 : Int) ≤ n := by omega
        have HI := Lib.hid ih
        have HR := Lib.hid hR
        have HLL := Lib.hid (And.intro hlT hlD)
        clear ih hR hlT hlD h hr hn hm
        go_enter Tryd.func12, Tryd.ntmps12
        go_wp2_with fail
        refine HS.out.mono ?_
        rintro e w1 ⟨rfl, rfl⟩
        have hT := hT.keep0 hkA
        have hD := hD.keep0 hkA
        clear HS
        generalize hsz : w.heap.size = g0 at *
        have hgw : w.heap.size ≤ g0 := by omega
        clear hsz
        generalize w.alloc (.cells Z.toArray 26) = v1 at *
        go_wp2_with fail
        refine wp_region_held_drew (S := fun _ => True) (by kernel_rfl) trivial (fun hHeld => ?_)
        have hKB : Keeps Nil w v1.drew := hkA.drew
        replace hbZ := hbZ.drew
        replace hT := hT.keep0 (Keeps.refl Nil v1).drew
        replace hD := hD.keep0 (Keeps.refl Nil v1).drew
        generalize v1.drew = v0 at *
        clear hkA
        have hk0 : (0 : Int) ≤ k := by omega
        have hk1 : (k : Int) ≤ n := by omega
        have hk2 : (k : Int) ≤ cap := by omega
        have hk3 : (n : Int) ≤ cap := by omega
        refine takeL (i := 0) (v := _) rfl (by kernel_rfl) (by kernel_rfl) (by kernel_rfl) (fun _ _ _ h => h) (Or.inl ⟨by rfl, by intro w hSw; (try dsimp only at hSw); go_simp; try with_reducible rfl⟩) (by assumption) ?_
        try simp only [Act.put, List.setIfInBounds_toArray, List.set_cons_zero, List.set_cons_succ]
        refine takeL (i := 1) (v := _) rfl (by kernel_rfl) (by kernel_rfl) (by kernel_rfl) (fun _ _ _ h => h) (Or.inl ⟨by rfl, by intro w hSw; (try dsimp only at hSw); go_simp; try with_reducible rfl⟩) (by assumption) ?_
        try simp only [Act.put, List.setIfInBounds_toArray, List.set_cons_zero, List.set_cons_succ]
        refine takeL (i := 2) (v := _) rfl (by kernel_rfl) (by kernel_rfl) (by kernel_rfl) (fun _ _ _ h => h) (Or.inl ⟨by rfl, by intro w hSw; (try dsimp only at hSw); go_simp; try with_reducible rfl⟩) (by assumption) ?_
        try simp only [Act.put, List.setIfInBounds_toArray, List.set_cons_zero, List.set_cons_succ]
        refine takeL (i := 4) (v := _) rfl (by kernel_rfl) (by kernel_rfl) (by kernel_rfl) (fun _ _ _ h => h) (Or.inl ⟨by rfl, by intro w hSw; (try dsimp only at hSw); go_simp; try with_reducible rfl⟩) (by assumption) ?_
        try simp only [Act.put, List.setIfInBounds_toArray, List.set_cons_zero, List.set_cons_succ]
        refine takeL (i := 5) (v := _) rfl (by kernel_rfl) (by kernel_rfl) (by kernel_rfl) (fun _ _ _ h => h) (Or.inl ⟨by rfl, by intro w hSw; (try dsimp only at hSw); go_simp; try with_reducible rfl⟩) (by assumption) ?_
        try simp only [Act.put, List.setIfInBounds_toArray, List.set_cons_zero, List.set_cons_succ]
        refine takeL (i := 6) (v := _) rfl (by kernel_rfl) (by kernel_rfl) (by kernel_rfl) (fun _ _ _ h => h) (Or.inl ⟨by rfl, by intro w hSw; (try dsimp only at hSw); go_simp; try with_reducible rfl⟩) (by assumption) ?_
        try simp only [Act.put, List.setIfInBounds_toArray, List.set_cons_zero, List.set_cons_succ]
        have hD' : Hs v0 (if cap = k then some ⟨b, off, none⟩ else some ⟨b, off + k * 32, none⟩) lD := by rw [if_neg (by omega)]; exact hD
        have ha1 := rootL_is hT.are
        have ha2 := rootL_is hD.are
        generalize (if cap = k then (some ⟨b, off, none⟩ : Option Addr) else some ⟨b, off + k * 32, none⟩) = aD at *
        clear hD hb
        refine onlyL (i := 3) rfl (by kernel_rfl) (fun K hK => ?_)
        go_simp
        refine (HI.out k hs2 HLL.out.1 hT (by omega) hc9).mono ?_
        rintro e w2 ⟨rfl, qk⟩
        replace hD' := hD'.keep0 qk
        replace hbZ := hbZ.keep0 qk
        replace hKB := hKB.trans qk
        clear hT qk
        refine (fun hHeld => hK _ _ hHeld ?_) (trivial)
        clear hK
        try simp only [Act.put, List.setIfInBounds_toArray, List.set_cons_zero, List.set_cons_succ]
        refine onlyL (i := 7) rfl (by kernel_rfl) (fun K hK => ?_)
        go_simp
        refine (HI.out (n - k) (by omega) HLL.out.2 hD' (by omega) (by omega)).mono ?_
        rintro e w3 ⟨rfl, qk⟩
        replace hbZ := hbZ.keep0 qk
        replace hKB := hKB.trans qk
        clear hD' qk
        refine (fun hHeld => hK _ _ hHeld ?_) (trivial)
        clear hK
        try simp only [Act.put, List.setIfInBounds_toArray, List.set_cons_zero, List.set_cons_succ]
        refine onlyL (i := 8) rfl (by kernel_rfl) (fun K hK => ?_)
        go_simp
        refine (refNode_walk ha1 ha2).mono ?_
        rintro e w4 ⟨rfl, qk⟩
        rw [← HR.out]
        replace hbZ := hbZ.keep0 qk
        replace hKB := hKB.trans qk
        clear qk
        refine (fun hHeld => hK _ _ hHeld ?_) (trivial)
        clear hK
        try simp only [Act.put, List.setIfInBounds_toArray, List.set_cons_zero, List.set_cons_succ]
        refine onlyL (i := 9) rfl (by kernel_rfl) (fun K hK => ?_)
        refine step_store rfl 26 _ _ rfl g0 rfl (byteV (rootL l)) rfl hbZ (by rw [hcl, HZ.out]) (by rw [hcl]; exact Tryd.infoH) hone ?_
        intro w5 hb4 hk4 _
        refine (fun hHeld => hK _ _ hHeld ?_) (trivial)
        clear hK
        try simp only [Act.put, List.setIfInBounds_toArray, List.set_cons_zero, List.set_cons_succ]
        refine wpAnyH_done (by kernel_rfl) ?_ _
        go_wp2_with fail
        exact ret_blk Tryd.results12 g0 rfl hb4 _ Tryd.undH rfl (by rw [hcl]; exact Tryd.infoH) rfl ⟨rfl, hKB.step hk4 (fun i hi => .inr (by rw [show i = g0 from hi]; exact hgw))⟩
end Go.Proofs.YtmbdldnldcgdjaaDoor
