/-
  TreeTold: leaves that have one root are the same, or two texts of one digest are told.
-/
import Derived.Test.YtmbdldnldcgdjaaTreeParts
import Derived.Test.YtmbdldnldcgdjaaOwnSet
namespace Go.Proofs.Ytmbdldnldcgdjaa
set_option linter.unusedSimpArgs false
set_option linter.unusedVariables false
open Go.RowKit

theorem flat_set : ∀ {l : List (List Int)}, AreH l → ∀ i j y, i < l.length → j < 32 → l.flatten.set (i * 32 + j) y = (l.set i ((l.getD i []).set j y)).flatten
  | [], _, i, j, y, h, _ => absurd h (by simp)
  | x :: l, h, i, j, y, hi, hj => by
    have h1 := (h x (List.mem_cons_self ..)).1
    cases i with
    | zero =>
      rw [List.flatten_cons, List.set_append_left _ _ (by omega)]
      simp
    | succ i =>
      have h2 := flat_set (l := l) (fun y hy => h y (List.mem_cons_of_mem _ hy)) i j y (by simpa using hi) hj
      rw [List.flatten_cons, List.set_append_right _ _ (by omega), h1, show (i + 1) * 32 + j - 32 = i * 32 + j by omega, h2]
      simp
theorem areH_set {l : List (List Int)} (h : AreH l) (i j : Nat) {y : Int} (hy : 0 ≤ y ∧ y < 256) (hi : i < l.length) : AreH (l.set i ((l.getD i []).set j y)) := fun x hx => by
  rcases List.mem_or_eq_of_mem_set hx with h' | h'
  · exact h x h'
  · rw [h']
    have h0 := h.at_ hi
    exact ⟨by rw [List.length_set]; exact h0.1, areB_set h0.2 j hy⟩
theorem getD_cell {l : List Int} {n i : Nat} (h : l.length = n) (hi : i < n) : Option.map (Value.int .u8) l[i]? = some (.int .u8 (l.getD i 0)) := by simp [List.getD, show i < l.length by omega]
theorem getD_mem3 {l : List Int} {n i : Nat} (h : l.length = n) (hi : i < n) : l.getD i 0 ∈ l := by simp [List.getD, show i < l.length by omega]
set_option maxRecDepth 20000 in
set_option maxHeartbeats 1600000 in
theorem treeTold_walk (a0 : Option Addr) (len0 cap0 : Nat) (z0 : List Int) (n1 n2 : Int) (w : World) (hr : Row .i64 w a0 len0 z0) (wf1 : (Lit.int .i64 n1).wf = true) (wf2 : (Lit.int .i64 n2).wf = true) :
    Calls Try.prog 5 #[.slice a0 len0 cap0, .int .i64 n1, .int .i64 n2] w (TrueS w) := by
  have hw1 := i64_wf wf1
  have hw2 := i64_wf wf2
  by_cases hl : 60 < len0
  · have hl2 : (60 : Int) < len0 := by omega
    clear hr hl
    go_enter Try.func5, Try.ntmps5
    go_wp2_with fail
    refine (treefirst_walk w).mono ?_
    rintro e w1 ⟨rfl, hk1⟩
    go_wp2_with fail
    go_ret
    exact ⟨by first | rfl | simp, hk1⟩
  · have l0 : (len0 : Int) ≤ 60 := by omega
    clear hl
    have HR := Lib.hid hr
    clear hr
    go_enter Try.func5, Try.ntmps5
    go_wp2_with fail
    refine (treefirst_walk w).mono ?_
    rintro e w1 ⟨rfl, hk1⟩
    go_wp2_with fail
    have HH := Lib.hid (hashes_walk (SeqAt.make (cap := cap0) (HR.out.keep hk1)) rfl 50 (by omega))
    have HK1 := Lib.hid (hk1.alloc (.cells #[.slice a0 len0 cap0, .int .i64 0] 31))
    have HG := Lib.hid hk1.size
    clear hk1
    refine HH.out.mono ?_
    rintro e w2 ⟨ah, ch, L, rfl, hO, hA, hL, hk2, hf⟩
    have hKv : Keeps Nil w w2 := HK1.out.step hk2 (fun i hi => .inr (by rw [show i = w1.heap.size from hi]; exact HG.out))
    have HC := Lib.hid (And.intro hO.2.1 hO.2.2.1)
    have HO := Lib.hid (And.intro hO (And.intro hA (And.intro hKv hf)))
    clear HH hO hf hk2 HK1 HG HR hA hKv
    generalize hn : L.length = n at *
    have HN := Lib.hid hn
    clear hn
    by_cases h0 : n = 0
    · have hn : (n : Int) = 0 := by omega
      clear h0
      go_wp2_with fail
      go_ret
      exact ⟨by first | rfl | simp, HO.out.2.2.1⟩
    · have hn0 : (0 : Int) < n := by omega
      have hn5 : (n : Int) ≤ 50 := by omega
      have hgE := fun (op : BinOp) (V U : List Value) (p q : Operand) (w : World) => Try.guardT op p q V.toArray U.toArray w
      have h1c : ∀ u ∈ byteV L.flatten, u.oneCell' = true := fun u hu => by obtain ⟨x, _, rfl⟩ := List.mem_map.1 hu; rfl
      have HS := Lib.hid (fun w' (hk : Keeps Nil w2 w') => (HO.out.1.keep0 hk).src h1c)
      clear h1c h0
      go_wp2_with (refine wpl_bs0 rfl 27 25 rfl Try.underlying27 (by kernel_rfl) 32 ?_)
      intro w3 hO3 hk3
      go_wp2_with (at_builtin; refine wpl_append rfl _ _ 27 rfl 25 32 32 Try.underlying27 Try.infoHh (by omega) _ 0 0 [] rfl hO3 ah n ch (byteV L.flatten) rfl (HS.out w3 hk3) (by unfold maxLen; omega) (by omega) ?_)
      intro ag cg w4 hO4 hk4 hf4 _
      have hO2 := (HO.out.1.keep0 hk3).keep hk4 (fun k hk e => by
        have h1 := HO.out.1.lt k hk
        rw [(blkOf_some _ _ _ _).1 e] at h1
        omega)
      have hK4 : Keeps Nil w w4 := (HO.out.2.2.1.trans hk3).step hk4 (fun k hk => .inr (by
        rw [(blkOf_some _ _ _ _).1 hk]; exact HO.out.2.2.1.size))
      have hf5 : ∀ k, blkOf ag k → w2.heap.size ≤ k := fun k hk => by
        rcases hf4 k hk with h' | h'
        · rw [(blkOf_some _ _ _ _).1 h']; exact Nat.le_refl _
        · rw [h']; exact hk3.size
      have hA := HO.out.2.1
      have HX := Lib.hid (And.intro hO2 (And.intro hO4 (And.intro hK4 (And.intro hf5 (And.intro hA (And.intro HO.out.1.lt HO.out.2.2.1.size))))))
      clear hO2 hO4 hK4 hf5 hA HO HS hk3 hk4 hf4 hO3
      go_wp2_with fail
      refine (number_walk n2 n _ hw2.1 hw2.2 (by omega) (by omega)).mono ?_
      rintro e w5 ⟨rfl, rfl⟩
      obtain ⟨k, hk, hmod⟩ : ∃ k : Nat, k < n ∧ n2 % (n : Int) = k := ⟨(n2 % (n : Int)).toNat, by have := Int.emod_lt_of_pos n2 (show (0 : Int) < n by omega); have := Int.emod_nonneg n2 (show (n : Int) ≠ 0 by omega); omega, by have := Int.emod_nonneg n2 (show (n : Int) ≠ 0 by omega); omega⟩
      rw [hmod]
      go_wp2_with fail
      refine (number_walk n1 3 _ hw1.1 hw1.2 (by omega) (by omega)).mono ?_
      rintro e w5 ⟨rfl, rfl⟩
      have hm0 : 0 ≤ n1 % 3 := Int.emod_nonneg _ (by omega)
      have hm1 : n1 % 3 < 3 := Int.emod_lt_of_pos _ (by omega)
      clear hmod
      generalize n1 % 3 = q at *
      have hk0 : (0 : Int) ≤ k := by omega
      have hk1 : (k : Int) < n := by omega
      have hgn := HX.out.2.1.2.1
      have hgx := HX.out.2.1.2.2.1
      unfold maxLen at hgx
      have hkL : k < L.length := by rw [HN.out]; exact hk
      have hxk := HX.out.2.2.2.2.1.at_ hkL
      have HHs := Lib.hid (Hs.own HX.out.1 HX.out.2.2.2.2.1 (by have := HN.out; omega))
      by_cases hq0 : q = 0
      · subst hq0
        obtain ⟨gg, ha, hlt, hrg⟩ := HX.out.2.1.some (by omega)
        subst ha
        have hfl := flat_at HX.out.2.2.2.2.1 k 3 (by omega)
        have hfN := flat_len HX.out.2.2.2.2.1
        rw [HN.out] at hfN
        have c3 : w4.cell? ⟨gg, k * 32 + 3, none⟩ = some (.int .u8 ((L.getD k []).getD 3 0)) := HX.out.2.1.cellAt _ (by rw [byteV, List.getElem?_map, hfl]; exact getD_cell hxk.1 (by omega))
        have z3 := HX.out.2.1.frozen (k * 32 + 3)
        have hxx := hxk.2 _ (getD_mem3 hxk.1 (show 3 < 32 by omega))
        have hy : 0 ≤ ((L.getD k []).getD 3 0 + 1) % 256 ∧ ((L.getD k []).getD 3 0 + 1) % 256 < 256 := ⟨Int.emod_nonneg _ (by omega), Int.emod_lt_of_pos _ (by omega)⟩
        have hset := HX.out.2.1.setCell (k * 32 + 3) (by rw [byteV_len, hfN]; omega) (.int .u8 (((L.getD k []).getD 3 0 + 1) % 256))
        rw [← byteV_set, flat_set HX.out.2.2.2.2.1 k 3 _ hkL (by omega)] at hset
        have hAs := areH_set HX.out.2.2.2.2.1 k 3 hy hkL
        have hks := (Keeps.refl (One gg) w4).setOne (k * 32 + 3) (.int .u8 (((L.getD k []).getD 3 0 + 1) % 256))
        have hge := HX.out.2.2.2.1 gg ((blkOf_some _ _ _ _).2 rfl)
        have hH2 := (HHs.out.keep hks (fun k hk e => by have h1 := HX.out.2.2.2.2.2.1 k hk; have e' : k = gg := e; omega)).keep0 (Keeps.refl Nil _).drew
        have hlen : (L.set k ((L.getD k []).set 3 (((L.getD k []).getD 3 0 + 1) % 256))).length = n := List.length_set.trans HN.out
        have hG2 := (Hs.own hset hAs (by omega)).keep0 (Keeps.refl Nil _).drew
        have hKW : Keeps Nil w (w4.setCell ⟨gg, k * 32 + 3, none⟩ (.int .u8 (((L.getD k []).getD 3 0 + 1) % 256))).drew := (HX.out.2.2.1.step hks (fun i hi => .inr (by rw [show i = gg from hi]; have := HX.out.2.2.2.2.2.2; omega))).drew
        have HMG := Lib.hid (And.intro hlen (And.intro hgn (And.intro HX.out.2.1.2.2.1 (show n ≤ 100 by omega))))
        have HH2 := Lib.hid hH2
        have HG2 := Lib.hid hG2
        have HKW := Lib.hid hKW
        clear hset hAs hks hH2 hG2 hKW hlen hrg hfl hfN hy hkL
        generalize L.set k ((L.getD k []).set 3 (((L.getD k []).getD 3 0 + 1) % 256)) = LG at *
        generalize (L.getD k []).getD 3 0 = x at *
        go_wp2_with fail
        go_region
        clear c3 z3
        generalize (w4.setCell ⟨gg, k * 32 + 3, none⟩ (.int .u8 ((x + 1) % 256))).drew = wT at *
        -- HH2 : Hid (Hs wT ah L) ; HG2 : Hid (Hs wT ag LG) ; HMG : Hid (LG.length = n ∧ n ≤ cg ∧ cg ≤ maxLen ∧ n ≤ 100) ; HKW : Hid (Keeps Nil w wT)
        have hcg := HMG.out.2.1
        have hcx := HMG.out.2.2.1
        unfold maxLen at hcx
        have hnc := HC.out.1
        have hnx := HC.out.2
        unfold maxLen at hnx
        go_wp2_with fail
        refine (refRoot_walk n HN.out HH2.out (by omega) (by omega)).mono ?_
        rintro e u1 ⟨rfl, qk⟩
        have HK1 := Lib.hid (HKW.out.trans qk)
        replace HG2 := Lib.hid (HG2.out.keep0 qk)
        replace HH2 := Lib.hid (HH2.out.keep0 qk)
        clear qk HKW
        go_wp2_with fail
        refine (refRoot_walk (n) HMG.out.1 HG2.out (by omega) (by omega)).mono ?_
        rintro e u2 ⟨rfl, qk⟩
        replace HK1 := Lib.hid (HK1.out.trans qk)
        replace HG2 := Lib.hid (HG2.out.keep0 qk)
        replace HH2 := Lib.hid (HH2.out.keep0 qk)
        clear qk
        have hi1 := rootL_is HH2.out.are
        have hi2 := rootL_is HG2.out.are
        have hqE := fun w => Try.eqlDig hi1.1 hi2.1 hi1.2 hi2.2 w
        have hqN := fun w => Try.neqDig hi1.1 hi2.1 hi1.2 hi2.2 w
        by_cases heq : rootL L = rootL LG
        · rw [heq] at hqE ⊢
          rw [beq_self_eq_true] at hqE
          clear hqN
          go_wp2_with (refine wpl_bin rfl _ _ _ _ _ rfl _ _ rfl rfl _ hqE (hgE _ _ _ _ _) ?_)
          go_ret
          exact ⟨by first | rfl | simp, HK1.out⟩
        · have hb1 : (rootL L == rootL LG) = false := by rw [beq_eq_false_iff_ne]; exact heq
          have hb2 : (rootL L != rootL LG) = true := by rw [bne_iff_ne]; exact heq
          rw [hb1] at hqE
          rw [hb2] at hqN
          obtain ⟨b, off, ha, hb, hrng⟩ := HH2.out.rng (by have := HN.out; omega)
          have hx := HH2.out.are.at_ (i := 0) (by have := HN.out; omega)
          have hrw := hrng 0 (by have := HN.out; omega)
          have hX1 := leafL_len (L.getD 0 [])
          have hX2 := leafL_bytes (L.getD 0 [])
          have hqL := fun w => Try.eqlDig hX1 hX1 hX2 hX2 w
          rw [beq_self_eq_true] at hqL
          have hgL := hgE .eql (byteV (leafL (L.getD 0 []))) (byteV (leafL (L.getD 0 [])))
          have hgN := hgE .neq (byteV (rootL L)) (byteV (rootL LG))
          subst ha
          have hn1 : 0 < n := by omega
          clear heq hb1 hb2 hi1 hi2 hX1 hX2 hrng
          go_wp2_with (refine wpl_bin rfl _ _ _ _ _ rfl _ _ rfl rfl _ hqE (hgE _ _ _ _ _) ?_)
          refine wp_region_held_drew (S := fun _ => True) (by kernel_rfl) trivial (fun hHeld => ?_)
          have hKB : Keeps Nil u2.drew u2.drew := Keeps.refl _ _
          have hKw := HK1.out.drew
          replace HH2 := Lib.hid (HH2.out.keep0 (Keeps.refl Nil u2).drew)
          replace HG2 := Lib.hid (HG2.out.keep0 (Keeps.refl Nil u2).drew)
          have hRow : Row .u8 u2.drew (some ⟨b, off + 0 * 32, none⟩) 32 (L.getD 0 []) := ⟨hx.1, by omega, fun _ => ⟨b, off + 0 * 32, rfl, hb, fun i hi => hrw i _ (by rw [byteV, List.getElem?_map]; exact getD_cell hx.1 hi)⟩, areB_wf hx.2⟩
          clear hrw HK1
          generalize L.getD 0 [] = X at *
          generalize u2.drew = v0 at *
          refine takeL (i := 0) (v := _) rfl (by kernel_rfl) (by kernel_rfl) (by kernel_rfl) (fun _ _ _ h => h) (Or.inl ⟨by rfl, by intro w hSw; (try dsimp only at hSw); go_simp; try with_reducible rfl⟩) (by assumption) ?_
          try simp only [Act.put, List.setIfInBounds_toArray, List.set_cons_zero, List.set_cons_succ]
          refine takeL (i := 1) (v := _) rfl (by kernel_rfl) (by kernel_rfl) (by kernel_rfl) (fun _ _ _ h => h) (Or.inl ⟨by rfl, by intro w hSw; (try dsimp only at hSw); go_simp; try with_reducible rfl⟩) (by assumption) ?_
          try simp only [Act.put, List.setIfInBounds_toArray, List.set_cons_zero, List.set_cons_succ]
          refine takeL (i := 2) (v := _) rfl (by kernel_rfl) (by kernel_rfl) (by kernel_rfl) (fun _ _ _ h => h) (Or.inl ⟨by rfl, by intro w hSw; (try dsimp only at hSw); go_simp; try with_reducible rfl⟩) (by assumption) ?_
          try simp only [Act.put, List.setIfInBounds_toArray, List.set_cons_zero, List.set_cons_succ]
          refine takeL (i := 4) (v := _) rfl (by kernel_rfl) (by kernel_rfl) (by kernel_rfl) (fun _ _ _ h => h) (Or.inl ⟨by rfl, by intro w hSw; (try dsimp only at hSw); go_simp; try with_reducible rfl⟩) (by assumption) ?_
          try simp only [Act.put, List.setIfInBounds_toArray, List.set_cons_zero, List.set_cons_succ]
          refine onlyL (i := 3) rfl (by kernel_rfl) (fun K hK => ?_)
          go_simp
          refine (root_walk n HN.out HH2.out (by omega) (by omega)).mono ?_
          rintro e v1 ⟨rfl, qk⟩
          replace hKB := hKB.trans qk
          clear qk
          refine (fun hHeld => hK _ _ hHeld ?_) (trivial)
          clear hK
          try simp only [Act.put, List.setIfInBounds_toArray, List.set_cons_zero, List.set_cons_succ]
          refine onlyL (i := 5) rfl (by kernel_rfl) (fun K hK => ?_)
          go_simp
          refine (root_walk (n) HMG.out.1 (HG2.out.keep0 hKB) (by omega) (by omega)).mono ?_
          rintro e v2 ⟨rfl, qk⟩
          replace hKB := hKB.trans qk
          clear qk
          refine (fun hHeld => hK _ _ hHeld ?_) (trivial)
          clear hK
          try simp only [Act.put, List.setIfInBounds_toArray, List.set_cons_zero, List.set_cons_succ]
          refine takeL (i := 6) (v := _) rfl (by kernel_rfl) (by kernel_rfl) (by kernel_rfl) (fun _ _ _ h => h) (yieldsIf_bin (by rfl) _ _ _ _ _ rfl _ _ rfl rfl _ hqN (hgN _ _)) (by assumption) ?_
          try simp only [Act.put, List.setIfInBounds_toArray, List.set_cons_zero, List.set_cons_succ]
          refine takeL (i := 7) (v := _) rfl (by kernel_rfl) (by kernel_rfl) (by kernel_rfl) (fun _ _ _ h => h) (Or.inl ⟨by rfl, by intro w hSw; (try dsimp only at hSw); go_simp; try with_reducible rfl⟩) (by assumption) ?_
          try simp only [Act.put, List.setIfInBounds_toArray, List.set_cons_zero, List.set_cons_succ]
          refine takeL (i := 8) (v := _) rfl (by kernel_rfl) (by kernel_rfl) (by kernel_rfl) (fun _ _ _ h => h) (Or.inl ⟨by rfl, by intro w hSw; (try dsimp only at hSw); go_simp; try with_reducible rfl⟩) (by assumption) ?_
          try simp only [Act.put, List.setIfInBounds_toArray, List.set_cons_zero, List.set_cons_succ]
          refine takeL (i := 9) (v := _) rfl (by kernel_rfl) (by kernel_rfl) (by kernel_rfl) (fun _ _ _ h => h) (Or.inl ⟨by rfl, by intro w hSw; (try dsimp only at hSw); go_simp; try with_reducible rfl⟩) (by assumption) ?_
          try simp only [Act.put, List.setIfInBounds_toArray, List.set_cons_zero, List.set_cons_succ]
          refine takeL (i := 10) (v := _) rfl (by kernel_rfl) (by kernel_rfl) (by kernel_rfl) (fun _ _ _ h => h) (Or.inl ⟨by rfl, by intro w hSw; (try dsimp only at hSw); go_simp; try with_reducible rfl⟩) (by assumption) ?_
          try simp only [Act.put, List.setIfInBounds_toArray, List.set_cons_zero, List.set_cons_succ]
          refine takeL (i := 11) (v := _) rfl (by kernel_rfl) (by kernel_rfl) (by kernel_rfl) (fun _ _ _ h => h) (Or.inl ⟨by rfl, by intro w hSw; (try dsimp only at hSw); go_simp; try with_reducible rfl⟩) (by assumption) ?_
          try simp only [Act.put, List.setIfInBounds_toArray, List.set_cons_zero, List.set_cons_succ]
          refine takeL (i := 14) (v := _) rfl (by kernel_rfl) (by kernel_rfl) (by kernel_rfl) (fun _ _ _ h => h) (Or.inl ⟨by rfl, by intro w hSw; (try dsimp only at hSw); go_simp; try with_reducible rfl⟩) (by assumption) ?_
          try simp only [Act.put, List.setIfInBounds_toArray, List.set_cons_zero, List.set_cons_succ]
          refine takeL (i := 15) (v := _) rfl (by kernel_rfl) (by kernel_rfl) (by kernel_rfl) (fun _ _ _ h => h) (Or.inl ⟨by rfl, by intro w hSw; (try dsimp only at hSw); go_simp; try with_reducible rfl⟩) (by assumption) ?_
          try simp only [Act.put, List.setIfInBounds_toArray, List.set_cons_zero, List.set_cons_succ]
          refine takeL (i := 16) (v := _) rfl (by kernel_rfl) (by kernel_rfl) (by kernel_rfl) (fun _ _ _ h => h) (Or.inl ⟨by rfl, by intro w hSw; (try dsimp only at hSw); go_simp; try with_reducible rfl⟩) (by assumption) ?_
          try simp only [Act.put, List.setIfInBounds_toArray, List.set_cons_zero, List.set_cons_succ]
          refine bothL (i := 12) (j := 13) rfl rfl (by kernel_rfl) (fun K hK => ?_) (fun K hK => ?_)
          · go_simp
            refine (leaf_walk (PieceOk.some (hRow.keep hKB)) (by omega)).mono ?_
            rintro e v3 ⟨rfl, qk⟩
            replace hKB := hKB.trans qk
            clear qk
            refine (fun hHeld => hK _ _ hHeld ?_) (trivial)
            clear hK
            try simp only [Act.put, List.setIfInBounds_toArray, List.set_cons_zero, List.set_cons_succ]
            refine onlyL (i := 13) rfl (by kernel_rfl) (fun K hK => ?_)
            refine step_bsK rfl _ 5 1 _ rfl [.int .u8 0] Try.underlying23 Try.bs8 rfl (by decide) (by decide) (by simp [Act.eval]) (by simp [Value.cells]) ?_
            intro g13 w13 hg13 h13 qk
            replace hg13 : v0.heap.size ≤ g13 := by rw [hg13]; exact hKB.size
            replace hKB := hKB.trans qk
            clear qk
            refine (fun hHeld => hK _ _ hHeld ?_) (trivial)
            clear hK
            try simp only [Act.put, List.setIfInBounds_toArray, List.set_cons_zero, List.set_cons_succ]
            -- at a world @W@ with hK : Keeps Nil v0 @W@, h13 : Blk @W@ g13 [0], hg13 : v0.heap.size ≤ g13
            refine onlyL (i := 17) rfl (by kernel_rfl) (fun K hK => ?_)
            refine step_appendMW rfl _ _ 23 rfl 5 Try.underlying23 Try.info8s (some ⟨g13, 0, none⟩) 1 1 [0] rfl (Own.mid (l := [0]) (own_lit h13 rfl (by omega))) (some ⟨b, off + 0 * 32, none⟩) 32 _ X rfl ((hRow.keep hKB).src (fun h => by cases h)) (by omega) ?_
            intro a17 c17 w17 ho17 qk _
            have hK17 := hKB.step qk (fun i hi => .inr (by rw [(blkOf_some _ _ _ _).1 hi.2]; exact hg13))
            refine (fun hHeld => hK _ _ hHeld ?_) (trivial)
            clear hK
            try simp only [Act.put, List.setIfInBounds_toArray, List.set_cons_zero, List.set_cons_succ]
            refine onlyL (i := 18) rfl (by kernel_rfl) (fun K hK => ?_)
            go_simp
            refine (refSum_walk (ho17.row (fun x hx => by
              rcases List.mem_cons.1 hx with rfl | hx
              · decide
              · exact hRow.wf x hx)) (by omega)).mono ?_
            rintro e w18 ⟨rfl, qk2⟩
            rw [show digest ([0] ++ X) = leafL X from rfl]
            refine (fun hHeld => hK _ _ hHeld ?_) (trivial)
            clear hK
            try simp only [Act.put, List.setIfInBounds_toArray, List.set_cons_zero, List.set_cons_succ]
            refine takeL (i := 19) (v := _) rfl (by kernel_rfl) (by kernel_rfl) (by kernel_rfl) (fun _ _ _ h => h) (yieldsIf_bin (by rfl) _ _ _ _ _ rfl _ _ rfl rfl _ hqL (hgL _ _)) (by assumption) ?_
            try simp only [Act.put, List.setIfInBounds_toArray, List.set_cons_zero, List.set_cons_succ]
            refine takeL (i := 20) (v := _) rfl (by kernel_rfl) (by kernel_rfl) (by kernel_rfl) (fun _ _ _ h => h) (Or.inl ⟨by rfl, by intro w hSw; (try dsimp only at hSw); go_simp; try with_reducible rfl⟩) (by assumption) ?_
            try simp only [Act.put, List.setIfInBounds_toArray, List.set_cons_zero, List.set_cons_succ]
            refine takeL (i := 21) (v := _) rfl (by kernel_rfl) (by kernel_rfl) (by kernel_rfl) (fun _ _ _ h => h) (Or.inl ⟨by rfl, by intro w hSw; (try dsimp only at hSw); go_simp; try with_reducible rfl⟩) (by assumption) ?_
            try simp only [Act.put, List.setIfInBounds_toArray, List.set_cons_zero, List.set_cons_succ]
            refine wpAnyH_done (by kernel_rfl) ?_ _
            go_wp2_with fail
            go_ret
            exact ⟨by first | rfl | simp, hKw.trans (hK17.trans qk2)⟩
          · refine step_bsK rfl _ 5 1 _ rfl [.int .u8 0] Try.underlying23 Try.bs8 rfl (by decide) (by decide) (by simp [Act.eval]) (by simp [Value.cells]) ?_
            intro g13 w13 hg13 h13 qk
            replace hg13 : v0.heap.size ≤ g13 := by rw [hg13]; exact hKB.size
            replace hKB := hKB.trans qk
            clear qk
            refine (fun hHeld => hK _ _ hHeld ?_) (trivial)
            clear hK
            try simp only [Act.put, List.setIfInBounds_toArray, List.set_cons_zero, List.set_cons_succ]
            refine onlyL (i := 12) rfl (by kernel_rfl) (fun K hK => ?_)
            go_simp
            refine (leaf_walk (PieceOk.some (hRow.keep hKB)) (by omega)).mono ?_
            rintro e v3 ⟨rfl, qk⟩
            replace h13 := h13.keep0 qk
            replace hKB := hKB.trans qk
            clear qk
            refine (fun hHeld => hK _ _ hHeld ?_) (trivial)
            clear hK
            try simp only [Act.put, List.setIfInBounds_toArray, List.set_cons_zero, List.set_cons_succ]
            -- at a world @W@ with hK : Keeps Nil v0 @W@, h13 : Blk @W@ g13 [0], hg13 : v0.heap.size ≤ g13
            refine onlyL (i := 17) rfl (by kernel_rfl) (fun K hK => ?_)
            refine step_appendMW rfl _ _ 23 rfl 5 Try.underlying23 Try.info8s (some ⟨g13, 0, none⟩) 1 1 [0] rfl (Own.mid (l := [0]) (own_lit h13 rfl (by omega))) (some ⟨b, off + 0 * 32, none⟩) 32 _ X rfl ((hRow.keep hKB).src (fun h => by cases h)) (by omega) ?_
            intro a17 c17 w17 ho17 qk _
            have hK17 := hKB.step qk (fun i hi => .inr (by rw [(blkOf_some _ _ _ _).1 hi.2]; exact hg13))
            refine (fun hHeld => hK _ _ hHeld ?_) (trivial)
            clear hK
            try simp only [Act.put, List.setIfInBounds_toArray, List.set_cons_zero, List.set_cons_succ]
            refine onlyL (i := 18) rfl (by kernel_rfl) (fun K hK => ?_)
            go_simp
            refine (refSum_walk (ho17.row (fun x hx => by
              rcases List.mem_cons.1 hx with rfl | hx
              · decide
              · exact hRow.wf x hx)) (by omega)).mono ?_
            rintro e w18 ⟨rfl, qk2⟩
            rw [show digest ([0] ++ X) = leafL X from rfl]
            refine (fun hHeld => hK _ _ hHeld ?_) (trivial)
            clear hK
            try simp only [Act.put, List.setIfInBounds_toArray, List.set_cons_zero, List.set_cons_succ]
            refine takeL (i := 19) (v := _) rfl (by kernel_rfl) (by kernel_rfl) (by kernel_rfl) (fun _ _ _ h => h) (yieldsIf_bin (by rfl) _ _ _ _ _ rfl _ _ rfl rfl _ hqL (hgL _ _)) (by assumption) ?_
            try simp only [Act.put, List.setIfInBounds_toArray, List.set_cons_zero, List.set_cons_succ]
            refine takeL (i := 20) (v := _) rfl (by kernel_rfl) (by kernel_rfl) (by kernel_rfl) (fun _ _ _ h => h) (Or.inl ⟨by rfl, by intro w hSw; (try dsimp only at hSw); go_simp; try with_reducible rfl⟩) (by assumption) ?_
            try simp only [Act.put, List.setIfInBounds_toArray, List.set_cons_zero, List.set_cons_succ]
            refine takeL (i := 21) (v := _) rfl (by kernel_rfl) (by kernel_rfl) (by kernel_rfl) (fun _ _ _ h => h) (Or.inl ⟨by rfl, by intro w hSw; (try dsimp only at hSw); go_simp; try with_reducible rfl⟩) (by assumption) ?_
            try simp only [Act.put, List.setIfInBounds_toArray, List.set_cons_zero, List.set_cons_succ]
            refine wpAnyH_done (by kernel_rfl) ?_ _
            go_wp2_with fail
            go_ret
            exact ⟨by first | rfl | simp, hKw.trans (hK17.trans qk2)⟩
      · by_cases hq1 : q = 1
        · subst hq1
          obtain ⟨gg, ha, hlt, hrg⟩ := HX.out.2.1.some (by omega)
          subst ha
          have hHg := Hs.own HX.out.2.1 HX.out.2.2.2.2.1 (by have := HN.out; omega)
          obtain ⟨b', off', ha', hb', hrng'⟩ := hHg.rng (by have := HN.out; omega)
          cases ha'
          have hld := hrng' k hkL
          rw [Nat.zero_add] at hld
          have hiL : (Try.prog.info? 25).map (·.size) = some (byteV (L.getD k [])).length := by rw [byteV_len, hxk.1]; exact Try.infoH
          have hXl : (byteV (L.getD k [])).length = 32 := by rw [byteV_len]; exact hxk.1
          have hUH := Try.undH
          have HXK := Lib.hid hxk
          have hb := Blk.new w4 (byteV (L.getD k [])) 25
          have hka := (Keeps.refl Nil w4).alloc (.cells (byteV (L.getD k [])).toArray 25)
          have hsrc := src_hash hb hxk.1
          have hO5 := HX.out.2.1.keep0 hka
          have hge := HX.out.2.2.2.1 gg ((blkOf_some _ _ _ _).2 rfl)
          have HKA := Lib.hid hka
          clear hb hka hrg hrng' hHg hxk hkL
          generalize L.getD k [] = X at *
          go_wp2_with (first | (refine wpl_load_at rfl 25 _ rfl gg (k * 32) rfl (byteV X) hld _ hUH rfl hiL ?_) | (refine wpl_bsOne rfl 27 25 _ rfl (byteV X) (.agg (byteV X).toArray) rfl 32 Try.underlying27 Try.infoHh2 (by omega) (by omega) hXl (by simp [Act.eval, Act.put]) ?_) | (at_builtin; go_must (refine wpl_append rfl _ _ 27 rfl 25 32 32 Try.underlying27 Try.infoHh (by omega) (some ⟨gg, 0, none⟩) cg n _ rfl hO5 (some ⟨w4.heap.size, 0, none⟩) 1 1 (byteV X) rfl hsrc (by unfold maxLen; omega) (by omega) ?_)))
          intro a6 c6 w6 hO6 hk6 hf6 _
          have hO7 : Own w6 25 32 a6 c6 (n + 1) (byteV (L ++ [X]).flatten) := by
            rw [List.flatten_append, show [X].flatten = X by simp, show byteV (L.flatten ++ X) = byteV L.flatten ++ byteV X from List.map_append]
            exact hO6
          have hA7 : AreH (L ++ [X]) := HX.out.2.2.2.2.1.append (fun y hy => by rw [List.mem_singleton.1 hy]; exact HXK.out)
          have hl7 : (L ++ [X]).length = n + 1 := by rw [List.length_append, HN.out]; rfl
          have HG2 := Lib.hid (Hs.own hO7 hA7 (by omega))
          have HH2 := Lib.hid ((HHs.out.keep0 HKA.out).keep hk6 (fun k hk e => by have h1 := HX.out.2.2.2.2.2.1 k hk; rw [(blkOf_some _ _ _ _).1 e] at h1; omega))
          have HKW : Hid (Keeps Nil w w6) := Lib.hid ((HX.out.2.2.1.trans HKA.out).step hk6 (fun i hi => .inr (by rw [(blkOf_some _ _ _ _).1 hi]; have := HX.out.2.2.2.2.2.2; omega)))
          have HMG := Lib.hid (And.intro hl7 (And.intro hO7.2.1 (And.intro hO7.2.2.1 (show n + 1 ≤ 100 by omega))))
          clear hO7 hA7 hl7 hO6 hk6 hf6 hO5 hsrc hld hiL hXl
          generalize L ++ [X] = LG at *
          clear HXK
          generalize X = X0 at *
          -- HH2 : Hid (Hs w6 ah L) ; HG2 : Hid (Hs w6 ag LG) ; HMG : Hid (LG.length = n + 1 ∧ n + 1 ≤ cg ∧ cg ≤ maxLen ∧ n + 1 ≤ 100) ; HKW : Hid (Keeps Nil w w6)
          have hcg := HMG.out.2.1
          have hcx := HMG.out.2.2.1
          unfold maxLen at hcx
          have hnc := HC.out.1
          have hnx := HC.out.2
          unfold maxLen at hnx
          go_wp2_with fail
          refine (refRoot_walk n HN.out HH2.out (by omega) (by omega)).mono ?_
          rintro e u1 ⟨rfl, qk⟩
          have HK1 := Lib.hid (HKW.out.trans qk)
          replace HG2 := Lib.hid (HG2.out.keep0 qk)
          replace HH2 := Lib.hid (HH2.out.keep0 qk)
          clear qk HKW
          go_wp2_with fail
          refine (refRoot_walk (n + 1) HMG.out.1 HG2.out (by omega) (by omega)).mono ?_
          rintro e u2 ⟨rfl, qk⟩
          replace HK1 := Lib.hid (HK1.out.trans qk)
          replace HG2 := Lib.hid (HG2.out.keep0 qk)
          replace HH2 := Lib.hid (HH2.out.keep0 qk)
          clear qk
          have hi1 := rootL_is HH2.out.are
          have hi2 := rootL_is HG2.out.are
          have hqE := fun w => Try.eqlDig hi1.1 hi2.1 hi1.2 hi2.2 w
          have hqN := fun w => Try.neqDig hi1.1 hi2.1 hi1.2 hi2.2 w
          by_cases heq : rootL L = rootL LG
          · rw [heq] at hqE ⊢
            rw [beq_self_eq_true] at hqE
            clear hqN
            go_wp2_with (refine wpl_bin rfl _ _ _ _ _ rfl _ _ rfl rfl _ hqE (hgE _ _ _ _ _) ?_)
            go_ret
            exact ⟨by first | rfl | simp, HK1.out⟩
          · have hb1 : (rootL L == rootL LG) = false := by rw [beq_eq_false_iff_ne]; exact heq
            have hb2 : (rootL L != rootL LG) = true := by rw [bne_iff_ne]; exact heq
            rw [hb1] at hqE
            rw [hb2] at hqN
            obtain ⟨b, off, ha, hb, hrng⟩ := HH2.out.rng (by have := HN.out; omega)
            have hx := HH2.out.are.at_ (i := 0) (by have := HN.out; omega)
            have hrw := hrng 0 (by have := HN.out; omega)
            have hX1 := leafL_len (L.getD 0 [])
            have hX2 := leafL_bytes (L.getD 0 [])
            have hqL := fun w => Try.eqlDig hX1 hX1 hX2 hX2 w
            rw [beq_self_eq_true] at hqL
            have hgL := hgE .eql (byteV (leafL (L.getD 0 []))) (byteV (leafL (L.getD 0 [])))
            have hgN := hgE .neq (byteV (rootL L)) (byteV (rootL LG))
            subst ha
            have hn1 : 0 < n := by omega
            clear heq hb1 hb2 hi1 hi2 hX1 hX2 hrng
            go_wp2_with (refine wpl_bin rfl _ _ _ _ _ rfl _ _ rfl rfl _ hqE (hgE _ _ _ _ _) ?_)
            refine wp_region_held_drew (S := fun _ => True) (by kernel_rfl) trivial (fun hHeld => ?_)
            have hKB : Keeps Nil u2.drew u2.drew := Keeps.refl _ _
            have hKw := HK1.out.drew
            replace HH2 := Lib.hid (HH2.out.keep0 (Keeps.refl Nil u2).drew)
            replace HG2 := Lib.hid (HG2.out.keep0 (Keeps.refl Nil u2).drew)
            have hRow : Row .u8 u2.drew (some ⟨b, off + 0 * 32, none⟩) 32 (L.getD 0 []) := ⟨hx.1, by omega, fun _ => ⟨b, off + 0 * 32, rfl, hb, fun i hi => hrw i _ (by rw [byteV, List.getElem?_map]; exact getD_cell hx.1 hi)⟩, areB_wf hx.2⟩
            clear hrw HK1
            generalize L.getD 0 [] = X at *
            generalize u2.drew = v0 at *
            refine takeL (i := 0) (v := _) rfl (by kernel_rfl) (by kernel_rfl) (by kernel_rfl) (fun _ _ _ h => h) (Or.inl ⟨by rfl, by intro w hSw; (try dsimp only at hSw); go_simp; try with_reducible rfl⟩) (by assumption) ?_
            try simp only [Act.put, List.setIfInBounds_toArray, List.set_cons_zero, List.set_cons_succ]
            refine takeL (i := 1) (v := _) rfl (by kernel_rfl) (by kernel_rfl) (by kernel_rfl) (fun _ _ _ h => h) (Or.inl ⟨by rfl, by intro w hSw; (try dsimp only at hSw); go_simp; try with_reducible rfl⟩) (by assumption) ?_
            try simp only [Act.put, List.setIfInBounds_toArray, List.set_cons_zero, List.set_cons_succ]
            refine takeL (i := 2) (v := _) rfl (by kernel_rfl) (by kernel_rfl) (by kernel_rfl) (fun _ _ _ h => h) (Or.inl ⟨by rfl, by intro w hSw; (try dsimp only at hSw); go_simp; try with_reducible rfl⟩) (by assumption) ?_
            try simp only [Act.put, List.setIfInBounds_toArray, List.set_cons_zero, List.set_cons_succ]
            refine takeL (i := 4) (v := _) rfl (by kernel_rfl) (by kernel_rfl) (by kernel_rfl) (fun _ _ _ h => h) (Or.inl ⟨by rfl, by intro w hSw; (try dsimp only at hSw); go_simp; try with_reducible rfl⟩) (by assumption) ?_
            try simp only [Act.put, List.setIfInBounds_toArray, List.set_cons_zero, List.set_cons_succ]
            refine onlyL (i := 3) rfl (by kernel_rfl) (fun K hK => ?_)
            go_simp
            refine (root_walk n HN.out HH2.out (by omega) (by omega)).mono ?_
            rintro e v1 ⟨rfl, qk⟩
            replace hKB := hKB.trans qk
            clear qk
            refine (fun hHeld => hK _ _ hHeld ?_) (trivial)
            clear hK
            try simp only [Act.put, List.setIfInBounds_toArray, List.set_cons_zero, List.set_cons_succ]
            refine onlyL (i := 5) rfl (by kernel_rfl) (fun K hK => ?_)
            go_simp
            refine (root_walk (n + 1) HMG.out.1 (HG2.out.keep0 hKB) (by omega) (by omega)).mono ?_
            rintro e v2 ⟨rfl, qk⟩
            replace hKB := hKB.trans qk
            clear qk
            refine (fun hHeld => hK _ _ hHeld ?_) (trivial)
            clear hK
            try simp only [Act.put, List.setIfInBounds_toArray, List.set_cons_zero, List.set_cons_succ]
            refine takeL (i := 6) (v := _) rfl (by kernel_rfl) (by kernel_rfl) (by kernel_rfl) (fun _ _ _ h => h) (yieldsIf_bin (by rfl) _ _ _ _ _ rfl _ _ rfl rfl _ hqN (hgN _ _)) (by assumption) ?_
            try simp only [Act.put, List.setIfInBounds_toArray, List.set_cons_zero, List.set_cons_succ]
            refine takeL (i := 7) (v := _) rfl (by kernel_rfl) (by kernel_rfl) (by kernel_rfl) (fun _ _ _ h => h) (Or.inl ⟨by rfl, by intro w hSw; (try dsimp only at hSw); go_simp; try with_reducible rfl⟩) (by assumption) ?_
            try simp only [Act.put, List.setIfInBounds_toArray, List.set_cons_zero, List.set_cons_succ]
            refine takeL (i := 8) (v := _) rfl (by kernel_rfl) (by kernel_rfl) (by kernel_rfl) (fun _ _ _ h => h) (Or.inl ⟨by rfl, by intro w hSw; (try dsimp only at hSw); go_simp; try with_reducible rfl⟩) (by assumption) ?_
            try simp only [Act.put, List.setIfInBounds_toArray, List.set_cons_zero, List.set_cons_succ]
            refine takeL (i := 9) (v := _) rfl (by kernel_rfl) (by kernel_rfl) (by kernel_rfl) (fun _ _ _ h => h) (Or.inl ⟨by rfl, by intro w hSw; (try dsimp only at hSw); go_simp; try with_reducible rfl⟩) (by assumption) ?_
            try simp only [Act.put, List.setIfInBounds_toArray, List.set_cons_zero, List.set_cons_succ]
            refine takeL (i := 10) (v := _) rfl (by kernel_rfl) (by kernel_rfl) (by kernel_rfl) (fun _ _ _ h => h) (Or.inl ⟨by rfl, by intro w hSw; (try dsimp only at hSw); go_simp; try with_reducible rfl⟩) (by assumption) ?_
            try simp only [Act.put, List.setIfInBounds_toArray, List.set_cons_zero, List.set_cons_succ]
            refine takeL (i := 11) (v := _) rfl (by kernel_rfl) (by kernel_rfl) (by kernel_rfl) (fun _ _ _ h => h) (Or.inl ⟨by rfl, by intro w hSw; (try dsimp only at hSw); go_simp; try with_reducible rfl⟩) (by assumption) ?_
            try simp only [Act.put, List.setIfInBounds_toArray, List.set_cons_zero, List.set_cons_succ]
            refine takeL (i := 14) (v := _) rfl (by kernel_rfl) (by kernel_rfl) (by kernel_rfl) (fun _ _ _ h => h) (Or.inl ⟨by rfl, by intro w hSw; (try dsimp only at hSw); go_simp; try with_reducible rfl⟩) (by assumption) ?_
            try simp only [Act.put, List.setIfInBounds_toArray, List.set_cons_zero, List.set_cons_succ]
            refine takeL (i := 15) (v := _) rfl (by kernel_rfl) (by kernel_rfl) (by kernel_rfl) (fun _ _ _ h => h) (Or.inl ⟨by rfl, by intro w hSw; (try dsimp only at hSw); go_simp; try with_reducible rfl⟩) (by assumption) ?_
            try simp only [Act.put, List.setIfInBounds_toArray, List.set_cons_zero, List.set_cons_succ]
            refine takeL (i := 16) (v := _) rfl (by kernel_rfl) (by kernel_rfl) (by kernel_rfl) (fun _ _ _ h => h) (Or.inl ⟨by rfl, by intro w hSw; (try dsimp only at hSw); go_simp; try with_reducible rfl⟩) (by assumption) ?_
            try simp only [Act.put, List.setIfInBounds_toArray, List.set_cons_zero, List.set_cons_succ]
            refine bothL (i := 12) (j := 13) rfl rfl (by kernel_rfl) (fun K hK => ?_) (fun K hK => ?_)
            · go_simp
              refine (leaf_walk (PieceOk.some (hRow.keep hKB)) (by omega)).mono ?_
              rintro e v3 ⟨rfl, qk⟩
              replace hKB := hKB.trans qk
              clear qk
              refine (fun hHeld => hK _ _ hHeld ?_) (trivial)
              clear hK
              try simp only [Act.put, List.setIfInBounds_toArray, List.set_cons_zero, List.set_cons_succ]
              refine onlyL (i := 13) rfl (by kernel_rfl) (fun K hK => ?_)
              refine step_bsK rfl _ 5 1 _ rfl [.int .u8 0] Try.underlying23 Try.bs8 rfl (by decide) (by decide) (by simp [Act.eval]) (by simp [Value.cells]) ?_
              intro g13 w13 hg13 h13 qk
              replace hg13 : v0.heap.size ≤ g13 := by rw [hg13]; exact hKB.size
              replace hKB := hKB.trans qk
              clear qk
              refine (fun hHeld => hK _ _ hHeld ?_) (trivial)
              clear hK
              try simp only [Act.put, List.setIfInBounds_toArray, List.set_cons_zero, List.set_cons_succ]
              -- at a world @W@ with hK : Keeps Nil v0 @W@, h13 : Blk @W@ g13 [0], hg13 : v0.heap.size ≤ g13
              refine onlyL (i := 17) rfl (by kernel_rfl) (fun K hK => ?_)
              refine step_appendMW rfl _ _ 23 rfl 5 Try.underlying23 Try.info8s (some ⟨g13, 0, none⟩) 1 1 [0] rfl (Own.mid (l := [0]) (own_lit h13 rfl (by omega))) (some ⟨b, off + 0 * 32, none⟩) 32 _ X rfl ((hRow.keep hKB).src (fun h => by cases h)) (by omega) ?_
              intro a17 c17 w17 ho17 qk _
              have hK17 := hKB.step qk (fun i hi => .inr (by rw [(blkOf_some _ _ _ _).1 hi.2]; exact hg13))
              refine (fun hHeld => hK _ _ hHeld ?_) (trivial)
              clear hK
              try simp only [Act.put, List.setIfInBounds_toArray, List.set_cons_zero, List.set_cons_succ]
              refine onlyL (i := 18) rfl (by kernel_rfl) (fun K hK => ?_)
              go_simp
              refine (refSum_walk (ho17.row (fun x hx => by
                rcases List.mem_cons.1 hx with rfl | hx
                · decide
                · exact hRow.wf x hx)) (by omega)).mono ?_
              rintro e w18 ⟨rfl, qk2⟩
              rw [show digest ([0] ++ X) = leafL X from rfl]
              refine (fun hHeld => hK _ _ hHeld ?_) (trivial)
              clear hK
              try simp only [Act.put, List.setIfInBounds_toArray, List.set_cons_zero, List.set_cons_succ]
              refine takeL (i := 19) (v := _) rfl (by kernel_rfl) (by kernel_rfl) (by kernel_rfl) (fun _ _ _ h => h) (yieldsIf_bin (by rfl) _ _ _ _ _ rfl _ _ rfl rfl _ hqL (hgL _ _)) (by assumption) ?_
              try simp only [Act.put, List.setIfInBounds_toArray, List.set_cons_zero, List.set_cons_succ]
              refine takeL (i := 20) (v := _) rfl (by kernel_rfl) (by kernel_rfl) (by kernel_rfl) (fun _ _ _ h => h) (Or.inl ⟨by rfl, by intro w hSw; (try dsimp only at hSw); go_simp; try with_reducible rfl⟩) (by assumption) ?_
              try simp only [Act.put, List.setIfInBounds_toArray, List.set_cons_zero, List.set_cons_succ]
              refine takeL (i := 21) (v := _) rfl (by kernel_rfl) (by kernel_rfl) (by kernel_rfl) (fun _ _ _ h => h) (Or.inl ⟨by rfl, by intro w hSw; (try dsimp only at hSw); go_simp; try with_reducible rfl⟩) (by assumption) ?_
              try simp only [Act.put, List.setIfInBounds_toArray, List.set_cons_zero, List.set_cons_succ]
              refine wpAnyH_done (by kernel_rfl) ?_ _
              go_wp2_with fail
              go_ret
              exact ⟨by first | rfl | simp, hKw.trans (hK17.trans qk2)⟩
            · refine step_bsK rfl _ 5 1 _ rfl [.int .u8 0] Try.underlying23 Try.bs8 rfl (by decide) (by decide) (by simp [Act.eval]) (by simp [Value.cells]) ?_
              intro g13 w13 hg13 h13 qk
              replace hg13 : v0.heap.size ≤ g13 := by rw [hg13]; exact hKB.size
              replace hKB := hKB.trans qk
              clear qk
              refine (fun hHeld => hK _ _ hHeld ?_) (trivial)
              clear hK
              try simp only [Act.put, List.setIfInBounds_toArray, List.set_cons_zero, List.set_cons_succ]
              refine onlyL (i := 12) rfl (by kernel_rfl) (fun K hK => ?_)
              go_simp
              refine (leaf_walk (PieceOk.some (hRow.keep hKB)) (by omega)).mono ?_
              rintro e v3 ⟨rfl, qk⟩
              replace h13 := h13.keep0 qk
              replace hKB := hKB.trans qk
              clear qk
              refine (fun hHeld => hK _ _ hHeld ?_) (trivial)
              clear hK
              try simp only [Act.put, List.setIfInBounds_toArray, List.set_cons_zero, List.set_cons_succ]
              -- at a world @W@ with hK : Keeps Nil v0 @W@, h13 : Blk @W@ g13 [0], hg13 : v0.heap.size ≤ g13
              refine onlyL (i := 17) rfl (by kernel_rfl) (fun K hK => ?_)
              refine step_appendMW rfl _ _ 23 rfl 5 Try.underlying23 Try.info8s (some ⟨g13, 0, none⟩) 1 1 [0] rfl (Own.mid (l := [0]) (own_lit h13 rfl (by omega))) (some ⟨b, off + 0 * 32, none⟩) 32 _ X rfl ((hRow.keep hKB).src (fun h => by cases h)) (by omega) ?_
              intro a17 c17 w17 ho17 qk _
              have hK17 := hKB.step qk (fun i hi => .inr (by rw [(blkOf_some _ _ _ _).1 hi.2]; exact hg13))
              refine (fun hHeld => hK _ _ hHeld ?_) (trivial)
              clear hK
              try simp only [Act.put, List.setIfInBounds_toArray, List.set_cons_zero, List.set_cons_succ]
              refine onlyL (i := 18) rfl (by kernel_rfl) (fun K hK => ?_)
              go_simp
              refine (refSum_walk (ho17.row (fun x hx => by
                rcases List.mem_cons.1 hx with rfl | hx
                · decide
                · exact hRow.wf x hx)) (by omega)).mono ?_
              rintro e w18 ⟨rfl, qk2⟩
              rw [show digest ([0] ++ X) = leafL X from rfl]
              refine (fun hHeld => hK _ _ hHeld ?_) (trivial)
              clear hK
              try simp only [Act.put, List.setIfInBounds_toArray, List.set_cons_zero, List.set_cons_succ]
              refine takeL (i := 19) (v := _) rfl (by kernel_rfl) (by kernel_rfl) (by kernel_rfl) (fun _ _ _ h => h) (yieldsIf_bin (by rfl) _ _ _ _ _ rfl _ _ rfl rfl _ hqL (hgL _ _)) (by assumption) ?_
              try simp only [Act.put, List.setIfInBounds_toArray, List.set_cons_zero, List.set_cons_succ]
              refine takeL (i := 20) (v := _) rfl (by kernel_rfl) (by kernel_rfl) (by kernel_rfl) (fun _ _ _ h => h) (Or.inl ⟨by rfl, by intro w hSw; (try dsimp only at hSw); go_simp; try with_reducible rfl⟩) (by assumption) ?_
              try simp only [Act.put, List.setIfInBounds_toArray, List.set_cons_zero, List.set_cons_succ]
              refine takeL (i := 21) (v := _) rfl (by kernel_rfl) (by kernel_rfl) (by kernel_rfl) (fun _ _ _ h => h) (Or.inl ⟨by rfl, by intro w hSw; (try dsimp only at hSw); go_simp; try with_reducible rfl⟩) (by assumption) ?_
              try simp only [Act.put, List.setIfInBounds_toArray, List.set_cons_zero, List.set_cons_succ]
              refine wpAnyH_done (by kernel_rfl) ?_ _
              go_wp2_with fail
              go_ret
              exact ⟨by first | rfl | simp, hKw.trans (hK17.trans qk2)⟩
        · have hq2 : q = 2 := by omega
          subst hq2
          clear hq0 hq1
          have HH2 := HHs
          have hG := (Hs.own HX.out.2.1 HX.out.2.2.2.2.1 (by have := HN.out; omega)).take (n - 1)
          have hl7 : (L.take (n - 1)).length = n - 1 := by rw [List.length_take, HN.out]; omega
          have HG2 := Lib.hid hG
          have HKW : Hid (Keeps Nil w w4) := Lib.hid HX.out.2.2.1
          have HMG := Lib.hid (And.intro hl7 (And.intro (show n - 1 ≤ cg by omega) (And.intro HX.out.2.1.2.2.1 (show n - 1 ≤ 100 by omega))))
          have hsub : ((n : Int) - 1) = ((n - 1 : Nat) : Int) := by omega
          clear hG hl7 hkL
          generalize L.take (n - 1) = LG at *
          generalize hm : n - 1 = m at *
          have hm5 : (0 : Int) ≤ m := by omega
          have hm6 : (m : Int) ≤ cg := by omega
          have hm7 : (m : Int) ≤ n := by omega
          have hm8 : m ≤ cg := by omega
          clear hm
          -- HH2 : Hid (Hs w4 ah L) ; HG2 : Hid (Hs w4 ag LG) ; HMG : Hid (LG.length = m ∧ m ≤ cg ∧ cg ≤ maxLen ∧ m ≤ 100) ; HKW : Hid (Keeps Nil w w4)
          have hcg := HMG.out.2.1
          have hcx := HMG.out.2.2.1
          unfold maxLen at hcx
          have hnc := HC.out.1
          have hnx := HC.out.2
          unfold maxLen at hnx
          go_wp2_with fail
          refine (refRoot_walk n HN.out HH2.out (by omega) (by omega)).mono ?_
          rintro e u1 ⟨rfl, qk⟩
          have HK1 := Lib.hid (HKW.out.trans qk)
          replace HG2 := Lib.hid (HG2.out.keep0 qk)
          replace HH2 := Lib.hid (HH2.out.keep0 qk)
          clear qk HKW
          go_wp2_with fail
          refine (refRoot_walk (m) HMG.out.1 HG2.out (by omega) (by omega)).mono ?_
          rintro e u2 ⟨rfl, qk⟩
          replace HK1 := Lib.hid (HK1.out.trans qk)
          replace HG2 := Lib.hid (HG2.out.keep0 qk)
          replace HH2 := Lib.hid (HH2.out.keep0 qk)
          clear qk
          have hi1 := rootL_is HH2.out.are
          have hi2 := rootL_is HG2.out.are
          have hqE := fun w => Try.eqlDig hi1.1 hi2.1 hi1.2 hi2.2 w
          have hqN := fun w => Try.neqDig hi1.1 hi2.1 hi1.2 hi2.2 w
          by_cases heq : rootL L = rootL LG
          · rw [heq] at hqE ⊢
            rw [beq_self_eq_true] at hqE
            clear hqN
            go_wp2_with (refine wpl_bin rfl _ _ _ _ _ rfl _ _ rfl rfl _ hqE (hgE _ _ _ _ _) ?_)
            go_ret
            exact ⟨by first | rfl | simp, HK1.out⟩
          · have hb1 : (rootL L == rootL LG) = false := by rw [beq_eq_false_iff_ne]; exact heq
            have hb2 : (rootL L != rootL LG) = true := by rw [bne_iff_ne]; exact heq
            rw [hb1] at hqE
            rw [hb2] at hqN
            obtain ⟨b, off, ha, hb, hrng⟩ := HH2.out.rng (by have := HN.out; omega)
            have hx := HH2.out.are.at_ (i := 0) (by have := HN.out; omega)
            have hrw := hrng 0 (by have := HN.out; omega)
            have hX1 := leafL_len (L.getD 0 [])
            have hX2 := leafL_bytes (L.getD 0 [])
            have hqL := fun w => Try.eqlDig hX1 hX1 hX2 hX2 w
            rw [beq_self_eq_true] at hqL
            have hgL := hgE .eql (byteV (leafL (L.getD 0 []))) (byteV (leafL (L.getD 0 [])))
            have hgN := hgE .neq (byteV (rootL L)) (byteV (rootL LG))
            subst ha
            have hn1 : 0 < n := by omega
            clear heq hb1 hb2 hi1 hi2 hX1 hX2 hrng
            go_wp2_with (refine wpl_bin rfl _ _ _ _ _ rfl _ _ rfl rfl _ hqE (hgE _ _ _ _ _) ?_)
            refine wp_region_held_drew (S := fun _ => True) (by kernel_rfl) trivial (fun hHeld => ?_)
            have hKB : Keeps Nil u2.drew u2.drew := Keeps.refl _ _
            have hKw := HK1.out.drew
            replace HH2 := Lib.hid (HH2.out.keep0 (Keeps.refl Nil u2).drew)
            replace HG2 := Lib.hid (HG2.out.keep0 (Keeps.refl Nil u2).drew)
            have hRow : Row .u8 u2.drew (some ⟨b, off + 0 * 32, none⟩) 32 (L.getD 0 []) := ⟨hx.1, by omega, fun _ => ⟨b, off + 0 * 32, rfl, hb, fun i hi => hrw i _ (by rw [byteV, List.getElem?_map]; exact getD_cell hx.1 hi)⟩, areB_wf hx.2⟩
            clear hrw HK1
            generalize L.getD 0 [] = X at *
            generalize u2.drew = v0 at *
            refine takeL (i := 0) (v := _) rfl (by kernel_rfl) (by kernel_rfl) (by kernel_rfl) (fun _ _ _ h => h) (Or.inl ⟨by rfl, by intro w hSw; (try dsimp only at hSw); go_simp; try with_reducible rfl⟩) (by assumption) ?_
            try simp only [Act.put, List.setIfInBounds_toArray, List.set_cons_zero, List.set_cons_succ]
            refine takeL (i := 1) (v := _) rfl (by kernel_rfl) (by kernel_rfl) (by kernel_rfl) (fun _ _ _ h => h) (Or.inl ⟨by rfl, by intro w hSw; (try dsimp only at hSw); go_simp; try with_reducible rfl⟩) (by assumption) ?_
            try simp only [Act.put, List.setIfInBounds_toArray, List.set_cons_zero, List.set_cons_succ]
            refine takeL (i := 2) (v := _) rfl (by kernel_rfl) (by kernel_rfl) (by kernel_rfl) (fun _ _ _ h => h) (Or.inl ⟨by rfl, by intro w hSw; (try dsimp only at hSw); go_simp; try with_reducible rfl⟩) (by assumption) ?_
            try simp only [Act.put, List.setIfInBounds_toArray, List.set_cons_zero, List.set_cons_succ]
            refine takeL (i := 4) (v := _) rfl (by kernel_rfl) (by kernel_rfl) (by kernel_rfl) (fun _ _ _ h => h) (Or.inl ⟨by rfl, by intro w hSw; (try dsimp only at hSw); go_simp; try with_reducible rfl⟩) (by assumption) ?_
            try simp only [Act.put, List.setIfInBounds_toArray, List.set_cons_zero, List.set_cons_succ]
            refine onlyL (i := 3) rfl (by kernel_rfl) (fun K hK => ?_)
            go_simp
            refine (root_walk n HN.out HH2.out (by omega) (by omega)).mono ?_
            rintro e v1 ⟨rfl, qk⟩
            replace hKB := hKB.trans qk
            clear qk
            refine (fun hHeld => hK _ _ hHeld ?_) (trivial)
            clear hK
            try simp only [Act.put, List.setIfInBounds_toArray, List.set_cons_zero, List.set_cons_succ]
            refine onlyL (i := 5) rfl (by kernel_rfl) (fun K hK => ?_)
            go_simp
            refine (root_walk (m) HMG.out.1 (HG2.out.keep0 hKB) (by omega) (by omega)).mono ?_
            rintro e v2 ⟨rfl, qk⟩
            replace hKB := hKB.trans qk
            clear qk
            refine (fun hHeld => hK _ _ hHeld ?_) (trivial)
            clear hK
            try simp only [Act.put, List.setIfInBounds_toArray, List.set_cons_zero, List.set_cons_succ]
            refine takeL (i := 6) (v := _) rfl (by kernel_rfl) (by kernel_rfl) (by kernel_rfl) (fun _ _ _ h => h) (yieldsIf_bin (by rfl) _ _ _ _ _ rfl _ _ rfl rfl _ hqN (hgN _ _)) (by assumption) ?_
            try simp only [Act.put, List.setIfInBounds_toArray, List.set_cons_zero, List.set_cons_succ]
            refine takeL (i := 7) (v := _) rfl (by kernel_rfl) (by kernel_rfl) (by kernel_rfl) (fun _ _ _ h => h) (Or.inl ⟨by rfl, by intro w hSw; (try dsimp only at hSw); go_simp; try with_reducible rfl⟩) (by assumption) ?_
            try simp only [Act.put, List.setIfInBounds_toArray, List.set_cons_zero, List.set_cons_succ]
            refine takeL (i := 8) (v := _) rfl (by kernel_rfl) (by kernel_rfl) (by kernel_rfl) (fun _ _ _ h => h) (Or.inl ⟨by rfl, by intro w hSw; (try dsimp only at hSw); go_simp; try with_reducible rfl⟩) (by assumption) ?_
            try simp only [Act.put, List.setIfInBounds_toArray, List.set_cons_zero, List.set_cons_succ]
            refine takeL (i := 9) (v := _) rfl (by kernel_rfl) (by kernel_rfl) (by kernel_rfl) (fun _ _ _ h => h) (Or.inl ⟨by rfl, by intro w hSw; (try dsimp only at hSw); go_simp; try with_reducible rfl⟩) (by assumption) ?_
            try simp only [Act.put, List.setIfInBounds_toArray, List.set_cons_zero, List.set_cons_succ]
            refine takeL (i := 10) (v := _) rfl (by kernel_rfl) (by kernel_rfl) (by kernel_rfl) (fun _ _ _ h => h) (Or.inl ⟨by rfl, by intro w hSw; (try dsimp only at hSw); go_simp; try with_reducible rfl⟩) (by assumption) ?_
            try simp only [Act.put, List.setIfInBounds_toArray, List.set_cons_zero, List.set_cons_succ]
            refine takeL (i := 11) (v := _) rfl (by kernel_rfl) (by kernel_rfl) (by kernel_rfl) (fun _ _ _ h => h) (Or.inl ⟨by rfl, by intro w hSw; (try dsimp only at hSw); go_simp; try with_reducible rfl⟩) (by assumption) ?_
            try simp only [Act.put, List.setIfInBounds_toArray, List.set_cons_zero, List.set_cons_succ]
            refine takeL (i := 14) (v := _) rfl (by kernel_rfl) (by kernel_rfl) (by kernel_rfl) (fun _ _ _ h => h) (Or.inl ⟨by rfl, by intro w hSw; (try dsimp only at hSw); go_simp; try with_reducible rfl⟩) (by assumption) ?_
            try simp only [Act.put, List.setIfInBounds_toArray, List.set_cons_zero, List.set_cons_succ]
            refine takeL (i := 15) (v := _) rfl (by kernel_rfl) (by kernel_rfl) (by kernel_rfl) (fun _ _ _ h => h) (Or.inl ⟨by rfl, by intro w hSw; (try dsimp only at hSw); go_simp; try with_reducible rfl⟩) (by assumption) ?_
            try simp only [Act.put, List.setIfInBounds_toArray, List.set_cons_zero, List.set_cons_succ]
            refine takeL (i := 16) (v := _) rfl (by kernel_rfl) (by kernel_rfl) (by kernel_rfl) (fun _ _ _ h => h) (Or.inl ⟨by rfl, by intro w hSw; (try dsimp only at hSw); go_simp; try with_reducible rfl⟩) (by assumption) ?_
            try simp only [Act.put, List.setIfInBounds_toArray, List.set_cons_zero, List.set_cons_succ]
            refine bothL (i := 12) (j := 13) rfl rfl (by kernel_rfl) (fun K hK => ?_) (fun K hK => ?_)
            · go_simp
              refine (leaf_walk (PieceOk.some (hRow.keep hKB)) (by omega)).mono ?_
              rintro e v3 ⟨rfl, qk⟩
              replace hKB := hKB.trans qk
              clear qk
              refine (fun hHeld => hK _ _ hHeld ?_) (trivial)
              clear hK
              try simp only [Act.put, List.setIfInBounds_toArray, List.set_cons_zero, List.set_cons_succ]
              refine onlyL (i := 13) rfl (by kernel_rfl) (fun K hK => ?_)
              refine step_bsK rfl _ 5 1 _ rfl [.int .u8 0] Try.underlying23 Try.bs8 rfl (by decide) (by decide) (by simp [Act.eval]) (by simp [Value.cells]) ?_
              intro g13 w13 hg13 h13 qk
              replace hg13 : v0.heap.size ≤ g13 := by rw [hg13]; exact hKB.size
              replace hKB := hKB.trans qk
              clear qk
              refine (fun hHeld => hK _ _ hHeld ?_) (trivial)
              clear hK
              try simp only [Act.put, List.setIfInBounds_toArray, List.set_cons_zero, List.set_cons_succ]
              -- at a world @W@ with hK : Keeps Nil v0 @W@, h13 : Blk @W@ g13 [0], hg13 : v0.heap.size ≤ g13
              refine onlyL (i := 17) rfl (by kernel_rfl) (fun K hK => ?_)
              refine step_appendMW rfl _ _ 23 rfl 5 Try.underlying23 Try.info8s (some ⟨g13, 0, none⟩) 1 1 [0] rfl (Own.mid (l := [0]) (own_lit h13 rfl (by omega))) (some ⟨b, off + 0 * 32, none⟩) 32 _ X rfl ((hRow.keep hKB).src (fun h => by cases h)) (by omega) ?_
              intro a17 c17 w17 ho17 qk _
              have hK17 := hKB.step qk (fun i hi => .inr (by rw [(blkOf_some _ _ _ _).1 hi.2]; exact hg13))
              refine (fun hHeld => hK _ _ hHeld ?_) (trivial)
              clear hK
              try simp only [Act.put, List.setIfInBounds_toArray, List.set_cons_zero, List.set_cons_succ]
              refine onlyL (i := 18) rfl (by kernel_rfl) (fun K hK => ?_)
              go_simp
              refine (refSum_walk (ho17.row (fun x hx => by
                rcases List.mem_cons.1 hx with rfl | hx
                · decide
                · exact hRow.wf x hx)) (by omega)).mono ?_
              rintro e w18 ⟨rfl, qk2⟩
              rw [show digest ([0] ++ X) = leafL X from rfl]
              refine (fun hHeld => hK _ _ hHeld ?_) (trivial)
              clear hK
              try simp only [Act.put, List.setIfInBounds_toArray, List.set_cons_zero, List.set_cons_succ]
              refine takeL (i := 19) (v := _) rfl (by kernel_rfl) (by kernel_rfl) (by kernel_rfl) (fun _ _ _ h => h) (yieldsIf_bin (by rfl) _ _ _ _ _ rfl _ _ rfl rfl _ hqL (hgL _ _)) (by assumption) ?_
              try simp only [Act.put, List.setIfInBounds_toArray, List.set_cons_zero, List.set_cons_succ]
              refine takeL (i := 20) (v := _) rfl (by kernel_rfl) (by kernel_rfl) (by kernel_rfl) (fun _ _ _ h => h) (Or.inl ⟨by rfl, by intro w hSw; (try dsimp only at hSw); go_simp; try with_reducible rfl⟩) (by assumption) ?_
              try simp only [Act.put, List.setIfInBounds_toArray, List.set_cons_zero, List.set_cons_succ]
              refine takeL (i := 21) (v := _) rfl (by kernel_rfl) (by kernel_rfl) (by kernel_rfl) (fun _ _ _ h => h) (Or.inl ⟨by rfl, by intro w hSw; (try dsimp only at hSw); go_simp; try with_reducible rfl⟩) (by assumption) ?_
              try simp only [Act.put, List.setIfInBounds_toArray, List.set_cons_zero, List.set_cons_succ]
              refine wpAnyH_done (by kernel_rfl) ?_ _
              go_wp2_with fail
              go_ret
              exact ⟨by first | rfl | simp, hKw.trans (hK17.trans qk2)⟩
            · refine step_bsK rfl _ 5 1 _ rfl [.int .u8 0] Try.underlying23 Try.bs8 rfl (by decide) (by decide) (by simp [Act.eval]) (by simp [Value.cells]) ?_
              intro g13 w13 hg13 h13 qk
              replace hg13 : v0.heap.size ≤ g13 := by rw [hg13]; exact hKB.size
              replace hKB := hKB.trans qk
              clear qk
              refine (fun hHeld => hK _ _ hHeld ?_) (trivial)
              clear hK
              try simp only [Act.put, List.setIfInBounds_toArray, List.set_cons_zero, List.set_cons_succ]
              refine onlyL (i := 12) rfl (by kernel_rfl) (fun K hK => ?_)
              go_simp
              refine (leaf_walk (PieceOk.some (hRow.keep hKB)) (by omega)).mono ?_
              rintro e v3 ⟨rfl, qk⟩
              replace h13 := h13.keep0 qk
              replace hKB := hKB.trans qk
              clear qk
              refine (fun hHeld => hK _ _ hHeld ?_) (trivial)
              clear hK
              try simp only [Act.put, List.setIfInBounds_toArray, List.set_cons_zero, List.set_cons_succ]
              -- at a world @W@ with hK : Keeps Nil v0 @W@, h13 : Blk @W@ g13 [0], hg13 : v0.heap.size ≤ g13
              refine onlyL (i := 17) rfl (by kernel_rfl) (fun K hK => ?_)
              refine step_appendMW rfl _ _ 23 rfl 5 Try.underlying23 Try.info8s (some ⟨g13, 0, none⟩) 1 1 [0] rfl (Own.mid (l := [0]) (own_lit h13 rfl (by omega))) (some ⟨b, off + 0 * 32, none⟩) 32 _ X rfl ((hRow.keep hKB).src (fun h => by cases h)) (by omega) ?_
              intro a17 c17 w17 ho17 qk _
              have hK17 := hKB.step qk (fun i hi => .inr (by rw [(blkOf_some _ _ _ _).1 hi.2]; exact hg13))
              refine (fun hHeld => hK _ _ hHeld ?_) (trivial)
              clear hK
              try simp only [Act.put, List.setIfInBounds_toArray, List.set_cons_zero, List.set_cons_succ]
              refine onlyL (i := 18) rfl (by kernel_rfl) (fun K hK => ?_)
              go_simp
              refine (refSum_walk (ho17.row (fun x hx => by
                rcases List.mem_cons.1 hx with rfl | hx
                · decide
                · exact hRow.wf x hx)) (by omega)).mono ?_
              rintro e w18 ⟨rfl, qk2⟩
              rw [show digest ([0] ++ X) = leafL X from rfl]
              refine (fun hHeld => hK _ _ hHeld ?_) (trivial)
              clear hK
              try simp only [Act.put, List.setIfInBounds_toArray, List.set_cons_zero, List.set_cons_succ]
              refine takeL (i := 19) (v := _) rfl (by kernel_rfl) (by kernel_rfl) (by kernel_rfl) (fun _ _ _ h => h) (yieldsIf_bin (by rfl) _ _ _ _ _ rfl _ _ rfl rfl _ hqL (hgL _ _)) (by assumption) ?_
              try simp only [Act.put, List.setIfInBounds_toArray, List.set_cons_zero, List.set_cons_succ]
              refine takeL (i := 20) (v := _) rfl (by kernel_rfl) (by kernel_rfl) (by kernel_rfl) (fun _ _ _ h => h) (Or.inl ⟨by rfl, by intro w hSw; (try dsimp only at hSw); go_simp; try with_reducible rfl⟩) (by assumption) ?_
              try simp only [Act.put, List.setIfInBounds_toArray, List.set_cons_zero, List.set_cons_succ]
              refine takeL (i := 21) (v := _) rfl (by kernel_rfl) (by kernel_rfl) (by kernel_rfl) (fun _ _ _ h => h) (Or.inl ⟨by rfl, by intro w hSw; (try dsimp only at hSw); go_simp; try with_reducible rfl⟩) (by assumption) ?_
              try simp only [Act.put, List.setIfInBounds_toArray, List.set_cons_zero, List.set_cons_succ]
              refine wpAnyH_done (by kernel_rfl) ?_ _
              go_wp2_with fail
              go_ret
              exact ⟨by first | rfl | simp, hKw.trans (hK17.trans qk2)⟩
end Go.Proofs.Ytmbdldnldcgdjaa
