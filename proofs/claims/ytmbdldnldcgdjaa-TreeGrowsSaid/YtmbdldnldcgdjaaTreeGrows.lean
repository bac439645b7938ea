/-
  TreeGrows: with one leaf more, as many as a power of two stay one root.
-/
import Derived.Test.YtmbdldnldcgdjaaTreeFirst
import Derived.Test.YtmbdldnldcgdjaaHashes
import Derived.Test.YtmbdldnldcgdjaaBin
namespace Go.Proofs.Ytmbdldnldcgdjaa
set_option linter.unusedSimpArgs false
set_option linter.unusedVariables false
open Go.RowKit

set_option maxRecDepth 20000 in
set_option maxHeartbeats 1600000 in
theorem treeGrows_walk (a0 : Option Addr) (len0 cap0 : Nat) (z0 : List Int) (w : World) (hr : Row .i64 w a0 len0 z0) :
    Calls Try.prog 7 #[.slice a0 len0 cap0] w (TrueS w) := by
  by_cases hl : 40 < len0
  · have hl2 : (40 : Int) < len0 := by omega
    clear hr hl
    go_enter Try.func7, Try.ntmps7
    go_wp2_with fail
    refine (treefirst_walk w).mono ?_
    rintro e w1 ⟨rfl, hk1⟩
    go_wp2_with fail
    go_ret
    exact ⟨by first | rfl | simp, hk1⟩
  · have l0 : (len0 : Int) ≤ 40 := by omega
    have HR := Lib.hid hr
    clear hl hr
    go_enter Try.func7, Try.ntmps7
    go_wp2_with fail
    refine (treefirst_walk w).mono ?_
    rintro e w1 ⟨rfl, hk1⟩
    have HK1 := Lib.hid hk1
    clear hk1
    go_wp2_with fail
    go_loopw [4, 5] (fun o x wr => ∃ (ah : Option Addr) (ch : Nat) (L : List (List Int)) (j : Nat), o = .slice ah j ch ∧ x = .int .i64 j ∧ j ≤ len0 ∧ Hid (L.length = j) ∧ Hid (Own wr 25 32 ah ch j (byteV L.flatten)) ∧ Hid (AreH L) ∧ Hid (Keeps Nil w wr) ∧ Hid (∀ k, blkOf ah k → w.heap.size ≤ k)) (fun _ x _ => len0 - (intOf x).toNat)
    case atStart => exact ⟨none, 0, [], 0, rfl, rfl, Nat.zero_le _, Lib.hid rfl, Lib.hid (Own.nil _ _ _), Lib.hid (fun _ hx => nomatch hx), Lib.hid HK1.out, Lib.hid (fun k hk => (blkOf_none k hk).elim)⟩
    case round =>
      obtain ⟨ah, ch, L, j, rfl, rfl, hj, hL, hO, hA, hkr, hf⟩ := hrel
      by_cases hlt : j < len0
      · obtain ⟨bb, off, rfl, hbb, hc⟩ := HR.out.cell (by omega)
        have cx := hkr.out.cell (hc j hlt) (fun h => h)
        have hx := i64_wf (HR.out.wf _ (HR.out.at_ hlt))
        clear hc hbb
        generalize z0.getD j 0 = x at *
        have HKY := Lib.hid (key_walk x wr hx.1 hx.2)
        have hj0 : (0 : Int) ≤ j := by omega
        have hj1 : (j : Int) < len0 := by omega
        go_wp2_with fail
        refine HKY.out.mono ?_
        rintro e w3 ⟨rfl, hk3⟩
        have hX1 := keyOf_len x
        have hX2 := keyOf_bytes x
        unfold keyV
        generalize keyOf x = X at *
        have hXl : (byteV X).length = 32 := by simp [byteV, hX1]
        have hX := Lib.hid (And.intro hX1 hX2)
        have hb := Blk.new w3 (byteV X) 25
        have hka := (Keeps.refl Nil w3).alloc (.cells (byteV X).toArray 25)
        have hO4 := (hO.out.keep0 hk3).keep0 hka
        have hsrc := src_hash hb hX1
        have hK4 := Lib.hid ((hkr.out.trans hk3).trans hka)
        clear hX1 hX2 hk3 HKY hb hka cx
        go_wp2_with (first | (refine wpl_bsOne rfl 27 25 _ rfl (byteV X) (.agg (byteV X).toArray) rfl 32 Try.underlying27 Try.infoHh2 (by omega) (by omega) hXl (by simp [Act.eval]) ?_) | (at_builtin; go_must (refine wpl_append rfl _ _ 27 rfl 25 32 32 Try.underlying27 Try.infoHh (by omega) ah ch j _ rfl hO4 (some ⟨w3.heap.size, 0, none⟩) 1 1 (byteV X) rfl hsrc (by unfold maxLen; omega) (by omega) ?_)))
        intro a5 c5 w5 hO5 hk5 hf5 _
        have hK5 : Keeps Nil w w5 := hK4.out.step hk5 (fun k hk => .inr (hf.out k hk))
        have hO6 : Own w5 25 32 a5 c5 (j + 1) (byteV (L ++ [X]).flatten) := by
          rw [List.flatten_append, show [X].flatten = X by simp, show byteV (L.flatten ++ X) = byteV L.flatten ++ byteV X from List.map_append]
          exact hO5
        have hA6 : AreH (L ++ [X]) := hA.out.append (fun y hy => by rw [List.mem_singleton.1 hy]; exact hX.out)
        have hf6 : ∀ k, blkOf a5 k → w.heap.size ≤ k := fun k hk => by
          rcases hf5 k hk with h1 | h1
          · exact hf.out k h1
          · rw [h1]; have := hK4.out.size; rw [size_alloc'] at this; first | exact this | (rw [size_alloc']; exact this)
        have hL6 : (L ++ [X]).length = j + 1 := by rw [List.length_append, hL.out]; rfl
        have HE := Lib.hid (And.intro hO6 (And.intro hA6 (And.intro hf6 (And.intro hK5 hL6))))
        clear hO5 hk5 hf5 hK5 hO6 hA6 hf6 hO4 hsrc hXl hL6
        go_wp2_with fail
        exact ⟨⟨a5, c5, L ++ [X], j + 1, rfl, by go_num, by omega, Lib.hid HE.out.2.2.2.2, Lib.hid HE.out.1, Lib.hid HE.out.2.1, Lib.hid HE.out.2.2.2.1, Lib.hid HE.out.2.2.1⟩, by simp [intOf]; omega⟩
      · obtain rfl : j = len0 := by omega
        have hHs := Hs.own hO.out hA.out (by have := hL.out; omega)
        have HC := Lib.hid (And.intro hO.out.2.1 hO.out.2.2.1)
        have HH := Lib.hid hHs
        have HKr := hkr
        clear hO hf hkr hHs
        have HRng := Lib.hid (HH.out.rng)
        have hcn := HC.out.1
        have hcm := HC.out.2
        unfold maxLen at hcm
        have hgE := fun (op : BinOp) (V U : List Value) (p q : Operand) (w : World) => Try.guardT op p q V.toArray U.toArray w
        go_wp2_with fail
        obtain ⟨wo, hwo⟩ : ∃ x, x = wr := ⟨_, rfl⟩
        subst hwo
        go_loopw [6, 7] (fun x y wi => ∃ n : Nat, x = .int .i64 n ∧ 2 ≤ n ∧ n ≤ j + 2 ∧ Hid (Keeps Nil wo wi)) (fun x _ _ => 3 + j - (intOf x).toNat)
        case atStart => exact ⟨2, rfl, by omega, by omega, Lib.hid (Keeps.refl _ _)⟩
        case round =>
          obtain ⟨n, rfl, hn2, hn3, hki⟩ := hrel
          by_cases hnj : n ≤ j
          · have hs1 := splitN_pos hn2
            have hs2 := splitN_lt hn2
            have hLn : (L.take n).length = n := by rw [List.length_take]; have := hL.out; omega
            have hR := rootL_more (l := L.take n) (by omega)
            rw [hLn, List.take_take, Nat.min_eq_left (by omega)] at hR
            have HSP := Lib.hid (split_walk (n : Int) wr (by omega) (by omega))
            rw [show ((n : Int)).toNat = n by omega] at HSP
            have hHn := (HH.out.keep0 hki.out).take n
            have hHk := (HH.out.keep0 hki.out).take (splitN n)
            obtain ⟨b, off, ha, hb, hrng⟩ := HRng.out (by have := hL.out; omega)
            subst ha
            have hHd := hHn.drop (splitN n)
            rw [Addr.add_lit] at hHd
            have hlk : (L.take (splitN n)).length = splitN n := by rw [List.length_take]; have := hL.out; omega
            have hld : ((L.take n).drop (splitN n)).length = n - splitN n := by rw [List.length_drop, hLn]
            have hqE := fun w => Try.neqDig (rootL_is hHn.are).1 (rootL_is hHn.are).1 (rootL_is hHn.are).2 (rootL_is hHn.are).2 w
            rw [bne_self_eq_false] at hqE
            have hgN := hgE .neq (byteV (rootL (L.take n))) (byteV (rootL (L.take n)))
            clear hgE hrng hb
            generalize L.take (splitN n) = lT at *
            generalize (L.take n).drop (splitN n) = lD at *
            generalize L.take n = lN at *
            generalize splitN n = k at *
            have HX := Lib.hid (And.intro hLn (And.intro hlk (And.intro hld hR)))
            clear hLn hlk hld hR
            have hk0 : (1 : Int) ≤ k := by omega
            have hk1 : (k : Int) < n := by omega
            have hk3 : (n : Int) ≤ j := by omega
            have hk4 : (n : Int) ≤ ch := by omega
            have hk5 : (k : Int) ≤ ch := by omega
            have hk6 : (ch : Int) ≤ 9223372036854775807 := by omega
            have hk8 : (j : Int) ≤ 40 := by omega
            go_wp2_with fail
            refine HSP.out.mono ?_
            rintro e w3 ⟨rfl, rfl⟩
            clear HSP
            go_wp2_with fail
            refine wp_region_held_drew (S := fun _ => True) (by kernel_rfl) trivial (fun hHeld => ?_)
            have hKv := hki.out.drew
            replace hHn := hHn.keep0 (Keeps.refl Nil wr).drew
            replace hHk := hHk.keep0 (Keeps.refl Nil wr).drew
            replace hHd := hHd.keep0 (Keeps.refl Nil wr).drew
            clear hki
            generalize wr.drew = v0 at *
            have hkz : (0 : Int) ≤ k := by omega
            have hk7 : (k : Int) ≤ n := by omega
            have hnz : (0 : Int) ≤ n := by omega
            refine takeL (i := 0) (v := _) rfl (by kernel_rfl) (by kernel_rfl) (by kernel_rfl) (fun _ _ _ h => h) (Or.inl ⟨by rfl, by intro w hSw; (try dsimp only at hSw); go_simp; try with_reducible rfl⟩) (by assumption) ?_
            try simp only [Act.put, List.setIfInBounds_toArray, List.set_cons_zero, List.set_cons_succ]
            refine takeL (i := 1) (v := _) rfl (by kernel_rfl) (by kernel_rfl) (by kernel_rfl) (fun _ _ _ h => h) (Or.inl ⟨by rfl, by intro w hSw; (try dsimp only at hSw); go_simp; try with_reducible rfl⟩) (by assumption) ?_
            try simp only [Act.put, List.setIfInBounds_toArray, List.set_cons_zero, List.set_cons_succ]
            refine takeL (i := 2) (v := _) rfl (by kernel_rfl) (by kernel_rfl) (by kernel_rfl) (fun _ _ _ h => h) (Or.inl ⟨by rfl, by intro w hSw; (try dsimp only at hSw); go_simp; try with_reducible rfl⟩) (by assumption) ?_
            try simp only [Act.put, List.setIfInBounds_toArray, List.set_cons_zero, List.set_cons_succ]
            refine takeL (i := 4) (v := _) rfl (by kernel_rfl) (by kernel_rfl) (by kernel_rfl) (fun _ _ _ h => h) (Or.inl ⟨by rfl, by intro w hSw; (try dsimp only at hSw); go_simp; try with_reducible rfl⟩) (by assumption) ?_
            try simp only [Act.put, List.setIfInBounds_toArray, List.set_cons_zero, List.set_cons_succ]
            refine takeL (i := 5) (v := _) rfl (by kernel_rfl) (by kernel_rfl) (by kernel_rfl) (fun _ _ _ h => h) (Or.inl ⟨by rfl, by intro w hSw; (try dsimp only at hSw); go_simp; try with_reducible rfl⟩) (by assumption) ?_
            try simp only [Act.put, List.setIfInBounds_toArray, List.set_cons_zero, List.set_cons_succ]
            refine takeL (i := 6) (v := _) rfl (by kernel_rfl) (by kernel_rfl) (by kernel_rfl) (fun _ _ _ h => h) (Or.inl ⟨by rfl, by intro w hSw; (try dsimp only at hSw); go_simp; try with_reducible rfl⟩) (by assumption) ?_
            try simp only [Act.put, List.setIfInBounds_toArray, List.set_cons_zero, List.set_cons_succ]
            refine takeL (i := 8) (v := _) rfl (by kernel_rfl) (by kernel_rfl) (by kernel_rfl) (fun _ _ _ h => h) (Or.inl ⟨by rfl, by intro w hSw; (try dsimp only at hSw); go_simp; try with_reducible rfl⟩) (by assumption) ?_
            try simp only [Act.put, List.setIfInBounds_toArray, List.set_cons_zero, List.set_cons_succ]
            refine takeL (i := 9) (v := _) rfl (by kernel_rfl) (by kernel_rfl) (by kernel_rfl) (fun _ _ _ h => h) (Or.inl ⟨by rfl, by intro w hSw; (try dsimp only at hSw); go_simp; try with_reducible rfl⟩) (by assumption) ?_
            try simp only [Act.put, List.setIfInBounds_toArray, List.set_cons_zero, List.set_cons_succ]
            refine takeL (i := 10) (v := _) rfl (by kernel_rfl) (by kernel_rfl) (by kernel_rfl) (fun _ _ _ h => h) (Or.inl ⟨by rfl, by intro w hSw; (try dsimp only at hSw); go_simp; try with_reducible rfl⟩) (by assumption) ?_
            try simp only [Act.put, List.setIfInBounds_toArray, List.set_cons_zero, List.set_cons_succ]
            refine takeL (i := 11) (v := _) rfl (by kernel_rfl) (by kernel_rfl) (by kernel_rfl) (fun _ _ _ h => h) (Or.inl ⟨by rfl, by intro w hSw; (try dsimp only at hSw); go_simp; try with_reducible rfl⟩) (by assumption) ?_
            try simp only [Act.put, List.setIfInBounds_toArray, List.set_cons_zero, List.set_cons_succ]
            have hD' : Hs v0 (if ch = k then some ⟨b, off, none⟩ else some ⟨b, off + k * 32, none⟩) lD := by rw [if_neg (by omega)]; exact hHd
            have ha1 := rootL_is hHk.are
            have ha2 := rootL_is hHd.are
            generalize (if ch = k then (some ⟨b, off, none⟩ : Option Addr) else some ⟨b, off + k * 32, none⟩) = aD at *
            clear hHd
            refine onlyL (i := 3) rfl (by kernel_rfl) (fun K hK => ?_)
            go_simp
            refine (root_walk n HX.out.1 hHn (by omega) (by omega)).mono ?_
            rintro e w4 ⟨rfl, qk⟩
            replace hHk := hHk.keep0 qk
            replace hD' := hD'.keep0 qk
            replace hKv := hKv.trans qk
            clear qk hHn
            refine (fun hHeld => hK _ _ hHeld ?_) (trivial)
            clear hK
            try simp only [Act.put, List.setIfInBounds_toArray, List.set_cons_zero, List.set_cons_succ]
            refine onlyL (i := 7) rfl (by kernel_rfl) (fun K hK => ?_)
            go_simp
            refine (root_walk k HX.out.2.1 hHk (by omega) (by omega)).mono ?_
            rintro e w5 ⟨rfl, qk⟩
            replace hD' := hD'.keep0 qk
            replace hKv := hKv.trans qk
            clear qk hHk
            refine (fun hHeld => hK _ _ hHeld ?_) (trivial)
            clear hK
            try simp only [Act.put, List.setIfInBounds_toArray, List.set_cons_zero, List.set_cons_succ]
            refine onlyL (i := 12) rfl (by kernel_rfl) (fun K hK => ?_)
            go_simp
            refine (root_walk (n - k) HX.out.2.2.1 hD' (by omega) (by omega)).mono ?_
            rintro e w6 ⟨rfl, qk⟩
            replace hKv := hKv.trans qk
            clear qk hD'
            refine (fun hHeld => hK _ _ hHeld ?_) (trivial)
            clear hK
            try simp only [Act.put, List.setIfInBounds_toArray, List.set_cons_zero, List.set_cons_succ]
            refine onlyL (i := 13) rfl (by kernel_rfl) (fun K hK => ?_)
            go_simp
            refine (refNode_walk ha1 ha2).mono ?_
            rintro e w7 ⟨rfl, qk⟩
            rw [← HX.out.2.2.2]
            replace hKv := hKv.trans qk
            clear qk
            refine (fun hHeld => hK _ _ hHeld ?_) (trivial)
            clear hK
            try simp only [Act.put, List.setIfInBounds_toArray, List.set_cons_zero, List.set_cons_succ]
            refine takeL (i := 14) (v := _) rfl (by kernel_rfl) (by kernel_rfl) (by kernel_rfl) (fun _ _ _ h => h) (yieldsIf_bin (by rfl) _ _ _ _ _ rfl _ _ rfl rfl _ hqE (hgN _ _)) (by assumption) ?_
            try simp only [Act.put, List.setIfInBounds_toArray, List.set_cons_zero, List.set_cons_succ]
            refine wpAnyH_done (by kernel_rfl) ?_ _
            have HKV := Lib.hid hKv
            clear hKv
            go_wp2_with fail
            exact ⟨⟨n + 1, by go_num, by omega, by omega, HKV⟩, by simp [intOf]; omega⟩
          · have hn4 : (j : Int) < n := by omega
            have hn5 : (n : Int) ≤ 100 := by omega
            have HKV := Lib.hid (HKr.out.trans hki.out)
            by_cases h0 : j = 0
            · subst h0
              clear hgE
              go_wp2_with fail
              refine wp_region_held_drew (S := fun _ => True) (by kernel_rfl) trivial (fun hHeld => ?_)
              refine takeL (i := 0) (v := _) rfl (by kernel_rfl) (by kernel_rfl) (by kernel_rfl) (fun _ _ _ h => h) (Or.inl ⟨by rfl, by intro w hSw; (try dsimp only at hSw); go_simp; try with_reducible rfl⟩) (by assumption) ?_
              try simp only [Act.put, List.setIfInBounds_toArray, List.set_cons_zero, List.set_cons_succ]
              refine takeL (i := 1) (v := _) rfl (by kernel_rfl) (by kernel_rfl) (by kernel_rfl) (fun _ _ _ h => h) (Or.inl ⟨by rfl, by intro w hSw; (try dsimp only at hSw); go_simp; try with_reducible rfl⟩) (by assumption) ?_
              try simp only [Act.put, List.setIfInBounds_toArray, List.set_cons_zero, List.set_cons_succ]
              refine takeL (i := 2) (v := _) rfl (by kernel_rfl) (by kernel_rfl) (by kernel_rfl) (fun _ _ _ h => h) (Or.inl ⟨by rfl, by intro w hSw; (try dsimp only at hSw); go_simp; try with_reducible rfl⟩) (by assumption) ?_
              try simp only [Act.put, List.setIfInBounds_toArray, List.set_cons_zero, List.set_cons_succ]
              refine takeL (i := 3) (v := _) rfl (by kernel_rfl) (by kernel_rfl) (by kernel_rfl) (fun _ _ _ h => h) (Or.inl ⟨by rfl, by intro w hSw; (try dsimp only at hSw); go_simp; try with_reducible rfl⟩) (by assumption) ?_
              try simp only [Act.put, List.setIfInBounds_toArray, List.set_cons_zero, List.set_cons_succ]
              refine takeL (i := 4) (v := _) rfl (by kernel_rfl) (by kernel_rfl) (by kernel_rfl) (fun _ _ _ h => h) (Or.inl ⟨by rfl, by intro w hSw; (try dsimp only at hSw); go_simp; try with_reducible rfl⟩) (by assumption) ?_
              try simp only [Act.put, List.setIfInBounds_toArray, List.set_cons_zero, List.set_cons_succ]
              refine takeL (i := 5) (v := _) rfl (by kernel_rfl) (by kernel_rfl) (by kernel_rfl) (fun _ _ _ h => h) (Or.inl ⟨by rfl, by intro w hSw; (try dsimp only at hSw); go_simp; try with_reducible rfl⟩) (by assumption) ?_
              try simp only [Act.put, List.setIfInBounds_toArray, List.set_cons_zero, List.set_cons_succ]
              refine takeL (i := 6) (v := undef) rfl (by kernel_rfl) (by kernel_rfl) (by kernel_rfl) (fun _ _ _ h => h) (Or.inr ⟨by rfl, rfl⟩) (by assumption) ?_
              try simp only [Act.put, List.setIfInBounds_toArray, List.set_cons_zero, List.set_cons_succ]
              refine takeL (i := 7) (v := undef) rfl (by kernel_rfl) (by kernel_rfl) (by kernel_rfl) (fun _ _ _ h => h) (Or.inr ⟨by rfl, rfl⟩) (by assumption) ?_
              try simp only [Act.put, List.setIfInBounds_toArray, List.set_cons_zero, List.set_cons_succ]
              refine takeL (i := 8) (v := undef) rfl (by kernel_rfl) (by kernel_rfl) (by kernel_rfl) (fun _ _ _ h => h) (Or.inr ⟨by rfl, rfl⟩) (by assumption) ?_
              try simp only [Act.put, List.setIfInBounds_toArray, List.set_cons_zero, List.set_cons_succ]
              refine takeL (i := 9) (v := undef) rfl (by kernel_rfl) (by kernel_rfl) (by kernel_rfl) (fun _ _ _ h => h) (Or.inr ⟨by rfl, rfl⟩) (by assumption) ?_
              try simp only [Act.put, List.setIfInBounds_toArray, List.set_cons_zero, List.set_cons_succ]
              refine takeL (i := 10) (v := undef) rfl (by kernel_rfl) (by kernel_rfl) (by kernel_rfl) (fun _ _ _ h => h) (Or.inr ⟨by rfl, rfl⟩) (by assumption) ?_
              try simp only [Act.put, List.setIfInBounds_toArray, List.set_cons_zero, List.set_cons_succ]
              refine takeL (i := 11) (v := undef) rfl (by kernel_rfl) (by kernel_rfl) (by kernel_rfl) (fun _ _ _ h => h) (Or.inr ⟨by rfl, rfl⟩) (by assumption) ?_
              try simp only [Act.put, List.setIfInBounds_toArray, List.set_cons_zero, List.set_cons_succ]
              refine takeL (i := 12) (v := undef) rfl (by kernel_rfl) (by kernel_rfl) (by kernel_rfl) (fun _ _ _ h => h) (Or.inr ⟨by rfl, rfl⟩) (by assumption) ?_
              try simp only [Act.put, List.setIfInBounds_toArray, List.set_cons_zero, List.set_cons_succ]
              refine takeL (i := 13) (v := _) rfl (by kernel_rfl) (by kernel_rfl) (by kernel_rfl) (fun _ _ _ h => h) (Or.inl ⟨by rfl, by intro w hSw; (try dsimp only at hSw); go_simp; try with_reducible rfl⟩) (by assumption) ?_
              try simp only [Act.put, List.setIfInBounds_toArray, List.set_cons_zero, List.set_cons_succ]
              refine takeL (i := 14) (v := _) rfl (by kernel_rfl) (by kernel_rfl) (by kernel_rfl) (fun _ _ _ h => h) (Or.inl ⟨by rfl, by intro w hSw; (try dsimp only at hSw); go_simp; try with_reducible rfl⟩) (by assumption) ?_
              try simp only [Act.put, List.setIfInBounds_toArray, List.set_cons_zero, List.set_cons_succ]
              refine takeL (i := 15) (v := _) rfl (by kernel_rfl) (by kernel_rfl) (by kernel_rfl) (fun _ _ _ h => h) (Or.inl ⟨by rfl, by intro w hSw; (try dsimp only at hSw); go_simp; try with_reducible rfl⟩) (by assumption) ?_
              try simp only [Act.put, List.setIfInBounds_toArray, List.set_cons_zero, List.set_cons_succ]
              refine wpAnyH_done (by kernel_rfl) ?_ _
              go_wp2_with fail
              go_ret
              exact ⟨by first | rfl | simp, HKV.out.drew⟩
            · obtain ⟨b, off, ha, hb, hrng⟩ := HRng.out (by have := hL.out; omega)
              subst ha
              have hH1 := (HH.out.keep0 hki.out).take 1
              have hl1 : (L.take 1).length = 1 := by rw [List.length_take]; have := hL.out; omega
              have hR := rootL_one hl1
              rw [show (L.take 1).getD 0 [] = L.getD 0 [] by simp [List.getD]] at hR
              have hlx := rangeAt_keep (hrng 0 (by have := hL.out; omega)) hki.out (fun h => h)
              have hx := hA.out.at_ (i := 0) (by have := hL.out; omega)
              have hqE := fun w => Try.eqlDig hx.1 hx.1 hx.2 hx.2 w
              rw [beq_self_eq_true] at hqE
              have hgN := hgE .eql (byteV (L.getD 0 [])) (byteV (L.getD 0 []))
              have hiL : (Try.prog.info? 25).map (·.size) = some (byteV (L.getD 0 [])).length := by rw [byteV_len, hx.1]; exact Try.infoH
              have HX := Lib.hid (And.intro hl1 hR)
              have hUH := Try.undH
              have hj1 : (0 : Int) < j := by omega
              have hj2 : (1 : Int) ≤ j := by omega
              have hj7 : 0 < j := by omega
              have hj3 : (j : Int) ≤ ch := by omega
              have hj4 : (1 : Int) ≤ ch := by omega
              have hj5 : ¬ (j : Int) = 0 := by omega
              have hj6 : ((j : Int) == 0) = false := by simpa using hj5
              clear hl1 hR hgE hrng hj5 h0
              generalize L.getD 0 [] = X at *
              generalize L.take 1 = l1 at *
              go_wp2_with fail
              refine wp_region_held_drew (S := fun w' => Keeps Nil wr.drew w') (by kernel_rfl) (Keeps.refl _ _) (fun hHeld => ?_)
              replace hH1 := hH1.keep0 (Keeps.refl Nil wr).drew
              replace hlx := rangeAt_keep hlx (Keeps.refl Nil wr).drew (fun h => h)
              have hKv := HKV.out.drew
              generalize wr.drew = v0 at *
              refine takeL (i := 0) (v := _) rfl (by kernel_rfl) (by kernel_rfl) (by kernel_rfl) (fun _ _ _ h => h) (Or.inl ⟨by rfl, by intro w hSw; (try dsimp only at hSw); go_simp; try with_reducible rfl⟩) (by assumption) ?_
              try simp only [Act.put, List.setIfInBounds_toArray, List.set_cons_zero, List.set_cons_succ]
              refine takeL (i := 1) (v := _) rfl (by kernel_rfl) (by kernel_rfl) (by kernel_rfl) (fun _ _ _ h => h) (Or.inl ⟨by rfl, by intro w hSw; (try dsimp only at hSw); go_simp; try with_reducible rfl⟩) (by assumption) ?_
              try simp only [Act.put, List.setIfInBounds_toArray, List.set_cons_zero, List.set_cons_succ]
              refine takeL (i := 2) (v := _) rfl (by kernel_rfl) (by kernel_rfl) (by kernel_rfl) (fun _ _ _ h => h) (Or.inl ⟨by rfl, by intro w hSw; (try dsimp only at hSw); go_simp; try with_reducible rfl⟩) (by assumption) ?_
              try simp only [Act.put, List.setIfInBounds_toArray, List.set_cons_zero, List.set_cons_succ]
              refine takeL (i := 3) (v := _) rfl (by kernel_rfl) (by kernel_rfl) (by kernel_rfl) (fun _ _ _ h => h) (Or.inl ⟨by rfl, by intro w hSw; (try dsimp only at hSw); go_simp; try with_reducible rfl⟩) (by assumption) ?_
              try simp only [Act.put, List.setIfInBounds_toArray, List.set_cons_zero, List.set_cons_succ]
              refine takeL (i := 4) (v := _) rfl (by kernel_rfl) (by kernel_rfl) (by kernel_rfl) (fun _ _ _ h => h) (Or.inl ⟨by rfl, by intro w hSw; (try dsimp only at hSw); go_simp; try with_reducible rfl⟩) (by assumption) ?_
              try simp only [Act.put, List.setIfInBounds_toArray, List.set_cons_zero, List.set_cons_succ]
              refine takeL (i := 5) (v := _) rfl (by kernel_rfl) (by kernel_rfl) (by kernel_rfl) (fun _ _ _ h => h) (Or.inl ⟨by rfl, by intro w hSw; (try dsimp only at hSw); go_simp; try with_reducible rfl⟩) (by assumption) ?_
              try simp only [Act.put, List.setIfInBounds_toArray, List.set_cons_zero, List.set_cons_succ]
              refine takeL (i := 6) (v := _) rfl (by kernel_rfl) (by kernel_rfl) (by kernel_rfl) (fun _ _ _ h => h) (Or.inl ⟨by rfl, by intro w hSw; (try dsimp only at hSw); go_simp; try with_reducible rfl⟩) (by assumption) ?_
              try simp only [Act.put, List.setIfInBounds_toArray, List.set_cons_zero, List.set_cons_succ]
              refine takeL (i := 7) (v := _) rfl (by kernel_rfl) (by kernel_rfl) (by kernel_rfl) (fun _ _ _ h => h) (Or.inl ⟨by rfl, by intro w hSw; (try dsimp only at hSw); go_simp; try with_reducible rfl⟩) (by assumption) ?_
              try simp only [Act.put, List.setIfInBounds_toArray, List.set_cons_zero, List.set_cons_succ]
              refine takeL (i := 9) (v := _) rfl (by kernel_rfl) (by kernel_rfl) (by kernel_rfl) (fun _ _ _ h => h) (Or.inl ⟨by rfl, by intro w hSw; (try dsimp only at hSw); go_simp; try with_reducible rfl⟩) (by assumption) ?_
              try simp only [Act.put, List.setIfInBounds_toArray, List.set_cons_zero, List.set_cons_succ]
              refine takeL (i := 10) (v := _) rfl (by kernel_rfl) (by kernel_rfl) (by kernel_rfl) (fun _ _ _ h => h) (Or.inl ⟨by rfl, by intro w hSw; (try dsimp only at hSw); go_simp; try with_reducible rfl⟩) (by assumption) ?_
              try simp only [Act.put, List.setIfInBounds_toArray, List.set_cons_zero, List.set_cons_succ]
              refine takeL (i := 11) (v := _) rfl (by kernel_rfl) (by kernel_rfl) (by kernel_rfl) (fun _ _ _ h => h) (yieldsIf_load_mid (by rfl) 25 _ rfl b (off+0*32) rfl (byteV X) _ (fun w hSw => (rangeAt_keep hlx hSw (fun h => h))) hUH rfl hiL) (by assumption) ?_
              try simp only [Act.put, List.setIfInBounds_toArray, List.set_cons_zero, List.set_cons_succ]
              refine onlyL (i := 8) rfl (by kernel_rfl) (fun K hK => ?_)
              go_simp
              refine (root_walk 1 HX.out.1 hH1 (by omega) (by omega)).mono ?_
              rintro e w4 ⟨rfl, qk⟩
              rw [HX.out.2]
              refine (fun hHeld => hK _ _ hHeld ?_) (qk)
              clear hK
              try simp only [Act.put, List.setIfInBounds_toArray, List.set_cons_zero, List.set_cons_succ]
              refine takeL (i := 12) (v := _) rfl (by kernel_rfl) (by kernel_rfl) (by kernel_rfl) (fun _ _ _ h => h) (yieldsIf_bin (by rfl) _ _ _ _ _ rfl _ _ rfl rfl _ hqE (hgN _ _)) (by assumption) ?_
              try simp only [Act.put, List.setIfInBounds_toArray, List.set_cons_zero, List.set_cons_succ]
              refine takeL (i := 13) (v := _) rfl (by kernel_rfl) (by kernel_rfl) (by kernel_rfl) (fun _ _ _ h => h) (Or.inl ⟨by rfl, by intro w hSw; (try dsimp only at hSw); go_simp; try with_reducible rfl⟩) (by assumption) ?_
              try simp only [Act.put, List.setIfInBounds_toArray, List.set_cons_zero, List.set_cons_succ]
              refine takeL (i := 14) (v := _) rfl (by kernel_rfl) (by kernel_rfl) (by kernel_rfl) (fun _ _ _ h => h) (Or.inl ⟨by rfl, by intro w hSw; (try dsimp only at hSw); go_simp; try with_reducible rfl⟩) (by assumption) ?_
              try simp only [Act.put, List.setIfInBounds_toArray, List.set_cons_zero, List.set_cons_succ]
              refine takeL (i := 15) (v := _) rfl (by kernel_rfl) (by kernel_rfl) (by kernel_rfl) (fun _ _ _ h => h) (Or.inl ⟨by rfl, by intro w hSw; (try dsimp only at hSw); go_simp; try with_reducible rfl⟩) (by assumption) ?_
              try simp only [Act.put, List.setIfInBounds_toArray, List.set_cons_zero, List.set_cons_succ]
              refine wpAnyH_done (by kernel_rfl) ?_ _
              go_wp2_with fail
              go_ret
              exact ⟨by first | rfl | simp, hKv.trans qk⟩
end Go.Proofs.Ytmbdldnldcgdjaa
