/-
  ProofErrors: a leaf that is none, a tree that is none, or too great, is told.
-/
import Derived.Test.YtmbdldnldcgdjaaDoorProofFirst
namespace Go.Proofs.YtmbdldnldcgdjaaDoor
set_option linter.unusedSimpArgs false
set_option linter.unusedVariables false
open Go.RowKit

theorem Tryd.builtH4 : Tryd.prog.built 26 [(0, .int .u8 4)] = some (byteV (hlit 4)).toArray := by kernel_rfl
theorem Tryd.builtH5 : Tryd.prog.built 26 [(0, .int .u8 5)] = some (byteV (hlit 5)).toArray := by kernel_rfl
theorem upE_bad {i n : Int} {m : Nat} (h : i < 0 ∨ n ≤ i ∨ 1048576 < n) : upE i n m = some 1 := by unfold upE; rw [if_pos h]
theorem chkE_bad {R X : List Int} {i n : Int} {P : List (List Int)} (h : i < 0 ∨ n ≤ i ∨ 1048576 < n) : chkE R X i n P = some 1 := by unfold chkE; rw [upE_bad h, if_neg (by simp)]
theorem upE_one : upE 0 1 0 = none := by
  unfold upE
  rw [if_neg (by omega)]
  have : depthN (Int.toNat 0) (Int.toNat 1) = 0 := depthN_none (by decide)
  rw [this]; rfl
theorem chkE_one (R X : List Int) : chkE R X 0 1 [] = if X = R then none else some 12 := by
  unfold chkE
  have h : upE 0 1 ([] : List (List Int)).length = none := upE_one
  have hv : upV X 0 1 [] = X := by unfold upV; rw [h, if_pos rfl, upL_none (by decide)]
  rw [h, if_pos rfl, hv]
theorem hlit_ne : hlit 5 ≠ hlit 4 := by decide
set_option maxRecDepth 20000 in
set_option maxHeartbeats 3200000 in
theorem proofErrors_walk (n0 n1 n2 : Int) (w : World) {p : Nat → Addr} (wf0 : (Lit.int .i64 n0).wf = true) (wf1 : (Lit.int .i64 n1).wf = true) (wf2 : (Lit.int .i64 n2).wf = true) (hE : Errs w p) :
    Calls Tryd.prog 6 #[.int .i64 n0, .int .i64 n1, .int .i64 n2] w (fun e w' => e = .returned (.bool true) ∧ Keeps Nil w w') := by
  have hw0 := i64_wf wf0
  have hw1 := i64_wf wf1
  have hw2 := i64_wf wf2
  have HE := Lib.hid hE
  clear hE wf0 wf1 wf2
  go_enter Tryd.func6, Tryd.ntmps6
  go_wp2_with fail
  refine (prooffirst_walk HE.out).mono ?_
  rintro e w1 ⟨rfl, hk1⟩
  have HK1 := Lib.hid hk1
  clear hk1
  go_wp2_with fail
  refine (number_walk n0 20 w1 hw0.1 hw0.2 (by omega) (by omega)).mono ?_
  rintro e w2 ⟨rfl, rfl⟩
  go_wp2_with fail
  refine (number_walk n1 1000 w1 hw1.1 hw1.2 (by omega) (by omega)).mono ?_
  rintro e w2 ⟨rfl, rfl⟩
  obtain ⟨n, hn⟩ := Int.eq_ofNat_of_zero_le (Int.emod_nonneg n0 (show (20 : Int) ≠ 0 by omega))
  obtain ⟨f, hf⟩ := Int.eq_ofNat_of_zero_le (Int.emod_nonneg n1 (show (1000 : Int) ≠ 0 by omega))
  have hn9 := Int.emod_lt_of_pos n0 (show (0 : Int) < 20 by omega)
  have hf9 := Int.emod_lt_of_pos n1 (show (0 : Int) < 1000 by omega)
  rw [hn] at hn9 ⊢
  rw [hf] at hf9 ⊢
  clear hn hf hw0 hw1
  go_wp2_with fail
  go_loopw [8, 9] (fun o x wr => ∃ (ah : Option Addr) (ch : Nat) (L : List (List Int)) (j : Nat), o = .slice ah j ch ∧ x = .int .i64 j ∧ j ≤ n ∧ Hid (Own wr 26 32 ah ch j (byteV L.flatten)) ∧ Hid (Keeps Nil w wr) ∧ Hid (∀ k, blkOf ah k → w.heap.size ≤ k)) (fun _ x _ => n - (intOf x).toNat)
  case atStart => exact ⟨none, 0, [], 0, rfl, rfl, Nat.zero_le _, Lib.hid (Own.nil _ _ _), HK1, Lib.hid (fun k hk => (blkOf_none k hk).elim)⟩
  case round =>
    obtain ⟨ah, ch, L, j, rfl, rfl, hj, hO, hkr, hf⟩ := hrel
    by_cases hlt : j < n
    · have HKY := Lib.hid (key_walk (j : Int) wr (by omega) (by omega))
      have hj0 : (0 : Int) ≤ j := by omega
      have hj1 : (j : Int) < n := by omega
      go_wp2_with fail
      refine HKY.out.mono ?_
      rintro e w3 ⟨rfl, hk3⟩
      have hX1 := keyOf_len (j : Int)
      unfold keyV
      generalize keyOf (j : Int) = X at *
      have hXl : (byteV X).length = 32 := by simp [byteV, hX1]
      have hb := Blk.new w3 (byteV X) 26
      have hka := (Keeps.refl Nil w3).alloc (.cells (byteV X).toArray 26)
      have hO4 := (hO.out.keep0 hk3).keep0 hka
      have hsrc := src_hash hb hX1
      have hK4 := Lib.hid ((hkr.out.trans hk3).trans hka)
      clear hX1 hk3 HKY hb hka
      go_wp2_with (first | (refine wpl_bsOne rfl 24 26 _ rfl (byteV X) (.agg (byteV X).toArray) rfl 32 Tryd.underlying24 Tryd.infoHh2 (by omega) (by omega) hXl (by simp [Act.eval]) ?_) | (at_builtin; go_must (refine wpl_append rfl _ _ 24 rfl 26 32 32 Tryd.underlying24 Tryd.infoHh (by omega) ah ch j _ rfl hO4 (some ⟨w3.heap.size, 0, none⟩) 1 1 (byteV X) rfl hsrc (by unfold maxLen; omega) (by omega) ?_)))
      intro a5 c5 w5 hO5 hk5 hf5 _
      have hK5 : Keeps Nil w w5 := hK4.out.step hk5 (fun k hk => .inr (hf.out k hk))
      have hO6 : Own w5 26 32 a5 c5 (j + 1) (byteV (L ++ [X]).flatten) := by rw [byteV_snoc]; exact hO5
      have hf6 : ∀ k, blkOf a5 k → w.heap.size ≤ k := fun k hk => by
        rcases hf5 k hk with h1 | h1
        · exact hf.out k h1
        · rw [h1]; have := hK4.out.size; rw [size_alloc'] at this; first | exact this | (rw [size_alloc']; exact this)
      have HX := Lib.hid (And.intro hO6 (And.intro hf6 hK5))
      clear hO5 hk5 hf5 hK5 hO6 hf6 hO4 hsrc hXl
      go_wp2_with fail
      exact ⟨⟨a5, c5, L ++ [X], j + 1, rfl, by go_num, by omega, Lib.hid HX.out.1, Lib.hid HX.out.2.2, Lib.hid HX.out.2.1⟩, by simp [intOf]; omega⟩
    · obtain rfl : j = n := by omega
      have hj0 : (0 : Int) ≤ j := by omega
      have hf0 : (0 : Int) ≤ f := by omega
      have hwn : IntKind.i64.wrap (-(f : Int)) = -(f : Int) := by rw [IntKind.wrap_i64]; omega
      have HK := hkr
      clear hO hf hkr
      have HE1 := Lib.hid (fun w' (hk : Keeps Nil w w') => HE.out.keep hk)
      have HPB := Lib.hid (fun w' (hk : Keeps Nil w w') (i : Int) (hi : i < 0 ∨ (j : Int) ≤ i) => pathBad_walk (n := j) (cap := ch) (a := ah) (HE1.out w' hk) hi)
      have HI1 := Lib.hid (fun w' (hk : Keeps Nil w w') => is_walk (HE1.out w' hk) (v := errV p 1) (c := 102) (pl := false) (q := 0) (.inr (.inl ⟨1, by omega, rfl, by omega, rfl, rfl⟩)) 102)
      have HI2 := Lib.hid (fun w' (hk : Keeps Nil w w') => is_walk (HE1.out w' hk) (v := errV p 12) (c := 113) (pl := false) (q := 0) (.inr (.inl ⟨12, by omega, rfl, by omega, rfl, rfl⟩)) 113)
      have h4 := hash32_lit (k := 4) (by omega)
      have h5 := hash32_lit (k := 5) (by omega)
      have hz : Hash32 z32 := ⟨z32_len, areB_zeros 32⟩
      have HC1 := Lib.hid (fun w' (hk : Keeps Nil w w') => check_walk (R := hlit 4) (X := hlit 4) (i := 0) (n := 1) (P := []) (m := 0) (cap := 0) (a := none) (HE1.out w' hk) rfl (Hs.none _ none) (by omega) (by omega) h4 h4)
      have HC2 := Lib.hid (fun w' (hk : Keeps Nil w w') => check_walk (R := hlit 4) (X := hlit 5) (i := 0) (n := 1) (P := []) (m := 0) (cap := 0) (a := none) (HE1.out w' hk) rfl (Hs.none _ none) (by omega) (by omega) h4 h5)
      have HU := Lib.hid (fun w' (hk : Keeps Nil w w') (i n : Int) => upBig_walk (X := z32) (i := i) (n := n) (P := []) (m := 0) (cap := 0) (a := none) (HE1.out w' hk) rfl (Hs.none _ none) (by omega) (by omega) hz)
      have HC := Lib.hid (fun w' (hk : Keeps Nil w w') (i n : Int) => check_walk (R := z32) (X := z32) (i := i) (n := n) (P := []) (m := 0) (cap := 0) (a := none) (HE1.out w' hk) rfl (Hs.none _ none) (by omega) (by omega) hz hz)
      have hUB := fun (i n : Int) (h : i < 0 ∨ n ≤ i ∨ 1048576 < n) => upE_bad (m := ([] : List (List Int)).length) h
      have hCB := fun (i n : Int) (h : i < 0 ∨ n ≤ i ∨ 1048576 < n) => chkE_bad (R := z32) (X := z32) (P := []) h
      have HUB := Lib.hid hUB
      have HCB := Lib.hid hCB
      unfold ChkPost at HC1 HC2 HC
      unfold UpPost at HU
      rw [chkE_one, if_pos rfl, show errO p none = .nilIface from rfl] at HC1
      rw [chkE_one, if_neg hlit_ne, show errO p (some 12) = errV p 12 from rfl] at HC2
      have HO1 : Hid (errO p (some 1) = errV p 1) := Lib.hid rfl
      unfold keyV at *
      have hb4 := Tryd.builtH4
      have hb5 := Tryd.builtH5
      have hbz := Tryd.builtZP
      clear h4 h5 hz hUB hCB
      generalize byteV (hlit 4) = B4 at *
      generalize byteV (hlit 5) = B5 at *
      generalize byteV z32 = BZ at *
      generalize errV p 1 = V at *
      generalize errV p 12 = U at *
      go_wp2_with fail
      refine (HPB.out _ HK.out _ (by omega)).mono ?_
      rintro e w2 ⟨rfl, qk⟩
      have HK2 := Lib.hid (HK.out.trans qk)
      clear qk
      go_wp2_with fail
      refine (HPB.out _ HK2.out _ (by omega)).mono ?_
      rintro e w3 ⟨rfl, qk⟩
      have HK3 := Lib.hid (HK2.out.trans qk)
      clear qk
      go_wp2_with fail
      refine (number_walk n2 4 w3 hw2.1 hw2.2 (by omega) (by omega)).mono ?_
      rintro e w4 ⟨rfl, rfl⟩
      have hm0 : 0 ≤ n2 % 4 := Int.emod_nonneg _ (by omega)
      have hm1 : n2 % 4 < 4 := Int.emod_lt_of_pos _ (by omega)
      generalize n2 % 4 = q at *
      by_cases hq0 : q = 0
      · subst hq0
        go_wp2_with (refine wpl_build rfl 26 _ rfl BZ [] hbz (by simp [Act.eval]) ?_)
        go_wp2_with fail
        refine (HU.out _ HK3.out _ _).mono ?_
        rw [HUB.out _ _ (by omega), HO1.out]
        rintro e w4 ⟨rfl, qk⟩
        have HK4 := Lib.hid (HK3.out.trans qk)
        clear qk
        go_wp2_with fail
        refine (HI1.out _ HK4.out).mono ?_
        rintro e w5 ⟨rfl, qk⟩
        have HK5 := Lib.hid (HK4.out.trans qk)
        clear qk
        go_wp2_with fail
        refine (HI1.out _ HK5.out).mono ?_
        rintro e w6 ⟨rfl, qk⟩
        have HK6 := Lib.hid (HK5.out.trans qk)
        clear qk
        go_wp2_with fail
        refine (HI1.out _ HK6.out).mono ?_
        rintro e w7 ⟨rfl, qk⟩
        have HK7 := Lib.hid (HK6.out.trans qk)
        clear qk
        have ht : isV 102 false 0 102 = true := by simp [isV, sameF]
        have ht2 : isV 113 false 0 113 = true := by simp [isV, sameF]
        rw [ht]
        go_wp2_with (first | (refine wpl_buildC rfl 26 0 (.int .u8 4) rfl B4 hb4 ?_))
        refine (HC1.out _ HK7.out).mono ?_
        rintro e w8 ⟨rfl, qk⟩
        have HK8 := Lib.hid (HK7.out.trans qk)
        clear qk
        go_wp2_with (first | (refine wpl_buildC rfl 26 0 (.int .u8 4) rfl B4 hb4 ?_) | (refine wpl_buildC rfl 26 0 (.int .u8 5) rfl B5 hb5 ?_))
        refine (HC2.out _ HK8.out).mono ?_
        rintro e w9 ⟨rfl, qk⟩
        have HK9 := Lib.hid (HK8.out.trans qk)
        clear qk
        go_wp2_with fail
        refine (HI2.out _ HK9.out).mono ?_
        rintro e w10 ⟨rfl, qk⟩
        rw [ht2]
        go_wp2_with fail
        go_ret
        exact ⟨by first | rfl | simp, HK9.out.trans qk⟩
      · by_cases hq1 : q = 1
        · subst hq1
          go_wp2_with (refine wpl_build rfl 26 _ rfl BZ [] hbz (by simp [Act.eval]) ?_)
          go_wp2_with fail
          refine (HU.out _ HK3.out _ _).mono ?_
          rw [HUB.out _ _ (by omega), HO1.out]
          rintro e w4 ⟨rfl, qk⟩
          have HK4 := Lib.hid (HK3.out.trans qk)
          clear qk
          go_wp2_with fail
          refine (HI1.out _ HK4.out).mono ?_
          rintro e w5 ⟨rfl, qk⟩
          have HK5 := Lib.hid (HK4.out.trans qk)
          clear qk
          go_wp2_with fail
          refine (HI1.out _ HK5.out).mono ?_
          rintro e w6 ⟨rfl, qk⟩
          have HK6 := Lib.hid (HK5.out.trans qk)
          clear qk
          go_wp2_with fail
          refine (HI1.out _ HK6.out).mono ?_
          rintro e w7 ⟨rfl, qk⟩
          have HK7 := Lib.hid (HK6.out.trans qk)
          clear qk
          have ht : isV 102 false 0 102 = true := by simp [isV, sameF]
          have ht2 : isV 113 false 0 113 = true := by simp [isV, sameF]
          rw [ht]
          go_wp2_with (first | (refine wpl_buildC rfl 26 0 (.int .u8 4) rfl B4 hb4 ?_))
          refine (HC1.out _ HK7.out).mono ?_
          rintro e w8 ⟨rfl, qk⟩
          have HK8 := Lib.hid (HK7.out.trans qk)
          clear qk
          go_wp2_with (first | (refine wpl_buildC rfl 26 0 (.int .u8 4) rfl B4 hb4 ?_) | (refine wpl_buildC rfl 26 0 (.int .u8 5) rfl B5 hb5 ?_))
          refine (HC2.out _ HK8.out).mono ?_
          rintro e w9 ⟨rfl, qk⟩
          have HK9 := Lib.hid (HK8.out.trans qk)
          clear qk
          go_wp2_with fail
          refine (HI2.out _ HK9.out).mono ?_
          rintro e w10 ⟨rfl, qk⟩
          rw [ht2]
          go_wp2_with fail
          go_ret
          exact ⟨by first | rfl | simp, HK9.out.trans qk⟩
        · by_cases hq2 : q = 2
          · subst hq2
            go_wp2_with (refine wpl_build rfl 26 _ rfl BZ [] hbz (by simp [Act.eval]) ?_)
            go_wp2_with fail
            refine (HU.out _ HK3.out _ _).mono ?_
            rw [HUB.out _ _ (by omega), HO1.out]
            rintro e w4 ⟨rfl, qk⟩
            have HK4 := Lib.hid (HK3.out.trans qk)
            clear qk
            go_wp2_with fail
            refine (HI1.out _ HK4.out).mono ?_
            rintro e w5 ⟨rfl, qk⟩
            have HK5 := Lib.hid (HK4.out.trans qk)
            clear qk
            go_wp2_with fail
            refine (HI1.out _ HK5.out).mono ?_
            rintro e w6 ⟨rfl, qk⟩
            have HK6 := Lib.hid (HK5.out.trans qk)
            clear qk
            go_wp2_with fail
            refine (HI1.out _ HK6.out).mono ?_
            rintro e w7 ⟨rfl, qk⟩
            have HK7 := Lib.hid (HK6.out.trans qk)
            clear qk
            have ht : isV 102 false 0 102 = true := by simp [isV, sameF]
            have ht2 : isV 113 false 0 113 = true := by simp [isV, sameF]
            rw [ht]
            go_wp2_with (first | (refine wpl_buildC rfl 26 0 (.int .u8 4) rfl B4 hb4 ?_))
            refine (HC1.out _ HK7.out).mono ?_
            rintro e w8 ⟨rfl, qk⟩
            have HK8 := Lib.hid (HK7.out.trans qk)
            clear qk
            go_wp2_with (first | (refine wpl_buildC rfl 26 0 (.int .u8 4) rfl B4 hb4 ?_) | (refine wpl_buildC rfl 26 0 (.int .u8 5) rfl B5 hb5 ?_))
            refine (HC2.out _ HK8.out).mono ?_
            rintro e w9 ⟨rfl, qk⟩
            have HK9 := Lib.hid (HK8.out.trans qk)
            clear qk
            go_wp2_with fail
            refine (HI2.out _ HK9.out).mono ?_
            rintro e w10 ⟨rfl, qk⟩
            rw [ht2]
            go_wp2_with fail
            go_ret
            exact ⟨by first | rfl | simp, HK9.out.trans qk⟩
          · have hq3 : q = 3 := by omega
            subst hq3
            go_wp2_with (refine wpl_build rfl 26 _ rfl BZ [] hbz (by simp [Act.eval]) ?_)
            go_wp2_with fail
            refine (HC.out _ HK3.out _ _).mono ?_
            rw [HCB.out _ _ (by omega), HO1.out]
            rintro e w4 ⟨rfl, qk⟩
            have HK4 := Lib.hid (HK3.out.trans qk)
            clear qk
            go_wp2_with fail
            refine (HI1.out _ HK4.out).mono ?_
            rintro e w5 ⟨rfl, qk⟩
            have HK5 := Lib.hid (HK4.out.trans qk)
            clear qk
            go_wp2_with fail
            refine (HI1.out _ HK5.out).mono ?_
            rintro e w6 ⟨rfl, qk⟩
            have HK6 := Lib.hid (HK5.out.trans qk)
            clear qk
            go_wp2_with fail
            refine (HI1.out _ HK6.out).mono ?_
            rintro e w7 ⟨rfl, qk⟩
            have HK7 := Lib.hid (HK6.out.trans qk)
            clear qk
            have ht : isV 102 false 0 102 = true := by simp [isV, sameF]
            have ht2 : isV 113 false 0 113 = true := by simp [isV, sameF]
            rw [ht]
            go_wp2_with (first | (refine wpl_buildC rfl 26 0 (.int .u8 4) rfl B4 hb4 ?_))
            refine (HC1.out _ HK7.out).mono ?_
            rintro e w8 ⟨rfl, qk⟩
            have HK8 := Lib.hid (HK7.out.trans qk)
            clear qk
            go_wp2_with (first | (refine wpl_buildC rfl 26 0 (.int .u8 4) rfl B4 hb4 ?_) | (refine wpl_buildC rfl 26 0 (.int .u8 5) rfl B5 hb5 ?_))
            refine (HC2.out _ HK8.out).mono ?_
            rintro e w9 ⟨rfl, qk⟩
            have HK9 := Lib.hid (HK8.out.trans qk)
            clear qk
            go_wp2_with fail
            refine (HI2.out _ HK9.out).mono ?_
            rintro e w10 ⟨rfl, qk⟩
            rw [ht2]
            go_wp2_with fail
            go_ret
            exact ⟨by first | rfl | simp, HK9.out.trans qk⟩
end Go.Proofs.YtmbdldnldcgdjaaDoor
