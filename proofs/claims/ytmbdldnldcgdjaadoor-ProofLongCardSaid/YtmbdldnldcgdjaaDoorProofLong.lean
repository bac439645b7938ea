/-
  ProofLong: a path is as long as the tree is deep, at most; each of it is the root of what stands beside the way.
-/
import Derived.Test.YtmbdldnldcgdjaaDoorProofFirst
import Derived.Test.YtmbdldnldcgdjaaDoorProofLongPlain
namespace Go.Proofs.YtmbdldnldcgdjaaDoor
set_option linter.unusedSimpArgs false
set_option linter.unusedVariables false
open Go.RowKit

theorem rangeAt_getD {w : World} {a : Option Addr} {l : List (List Int)} (h : Hs w a l) {b off : Nat} (ha : a = some ⟨b, off, none⟩) {i : Nat} (hi : i < l.length) : w.rangeAt b (off + i * 32) (byteV (l.getD i [])) := by
  obtain ⟨b', off', ha', _, hr⟩ := h.rng (by omega)
  rw [ha] at ha'
  cases ha'
  exact hr i hi
set_option maxRecDepth 20000 in
set_option maxHeartbeats 3200000 in
theorem proofLong_walk (n0 n1 : Int) (w : World) {p : Nat → Addr} (wf0 : (Lit.int .i64 n0).wf = true) (wf1 : (Lit.int .i64 n1).wf = true) (hE : Errs w p) :
    Calls Tryd.prog 3 #[.int .i64 n0, .int .i64 n1] w (fun e w' => e = .returned (.bool true) ∧ Keeps Nil w w') := by
  have hw0 := i64_wf wf0
  have hw1 := i64_wf wf1
  have HE := Lib.hid hE
  clear hE wf0 wf1
  go_enter Tryd.func3, Tryd.ntmps3
  go_wp2_with fail
  refine (prooffirst_walk HE.out).mono ?_
  rintro e w1 ⟨rfl, hk1⟩
  have HK1 := Lib.hid hk1
  clear hk1
  go_wp2_with fail
  refine (number_walk n0 60 w1 hw0.1 hw0.2 (by omega) (by omega)).mono ?_
  rintro e w2 ⟨rfl, rfl⟩
  have h0 := Int.emod_nonneg n0 (show (60 : Int) ≠ 0 by omega)
  have h9 := Int.emod_lt_of_pos n0 (show (0 : Int) < 60 by omega)
  obtain ⟨n, hn⟩ : ∃ n : Nat, n0 % 60 + 1 = n := ⟨(n0 % 60 + 1).toNat, by omega⟩
  have HN := Lib.hid hn
  have hn1 : (1 : Int) ≤ n := by omega
  have hn9 : (n : Int) ≤ 60 := by omega
  clear hn
  go_wp2_with fail
  rw [HN.out]
  refine (number_walk n1 n w1 hw1.1 hw1.2 (by omega) (by omega)).mono ?_
  rintro e w2 ⟨rfl, rfl⟩
  obtain ⟨i, hi⟩ := Int.eq_ofNat_of_zero_le (Int.emod_nonneg n1 (show (n : Int) ≠ 0 by omega))
  have hi9 := Int.emod_lt_of_pos n1 (show (0 : Int) < n by omega)
  rw [hi] at hi9 ⊢
  clear hi hw0 hw1 HN h0 h9
  go_wp2_with fail
  go_loopw [6, 7] (fun o x wr => ∃ (ah : Option Addr) (ch : Nat) (L : List (List Int)) (j : Nat), o = .slice ah j ch ∧ x = .int .i64 j ∧ j ≤ n ∧ Hid (L.length = j) ∧ Hid (AreH L) ∧ Hid (Own wr 26 32 ah ch j (byteV L.flatten)) ∧ Hid (Keeps Nil w wr) ∧ Hid (∀ k, blkOf ah k → w.heap.size ≤ k)) (fun _ x _ => n - (intOf x).toNat)
  case atStart => exact ⟨none, 0, [], 0, rfl, rfl, Nat.zero_le _, Lib.hid rfl, Lib.hid (fun _ hx => nomatch hx), Lib.hid (Own.nil _ _ _), HK1, Lib.hid (fun k hk => (blkOf_none k hk).elim)⟩
  case round =>
    obtain ⟨ah, ch, L, j, rfl, rfl, hj, hL, hA, hO, hkr, hf⟩ := hrel
    by_cases hlt : j < n
    · have HKY := Lib.hid (key_walk (7 * (j : Int)) wr (by omega) (by omega))
      have hj0 : (0 : Int) ≤ j := by omega
      have hj1 : (j : Int) < n := by omega
      go_wp2_with fail
      refine HKY.out.mono ?_
      rintro e w3 ⟨rfl, hk3⟩
      have hX1 := keyOf_len (7 * (j : Int))
      have hX2 := keyOf_bytes (7 * (j : Int))
      unfold keyV
      generalize keyOf (7 * (j : Int)) = X at *
      have hXl : (byteV X).length = 32 := by simp [byteV, hX1]
      have hb := Blk.new w3 (byteV X) 26
      have hka := (Keeps.refl Nil w3).alloc (.cells (byteV X).toArray 26)
      have hO4 := (hO.out.keep0 hk3).keep0 hka
      have hsrc := src_hash hb hX1
      have hK4 := Lib.hid ((hkr.out.trans hk3).trans hka)
      have hAX := Lib.hid (hA.out.append (r := [X]) (fun y hy => by rw [List.mem_singleton.1 hy]; exact ⟨hX1, hX2⟩))
      clear hX1 hX2 hk3 HKY hb hka
      go_wp2_with (first | (refine wpl_bsOne rfl 24 26 _ rfl (byteV X) (.agg (byteV X).toArray) rfl 32 Tryd.underlying24 Tryd.infoHh2 (by omega) (by omega) hXl (by simp [Act.eval]) ?_) | (at_builtin; go_must (refine wpl_append rfl _ _ 24 rfl 26 32 32 Tryd.underlying24 Tryd.infoHh (by omega) ah ch j _ rfl hO4 (some ⟨w3.heap.size, 0, none⟩) 1 1 (byteV X) rfl hsrc (by unfold maxLen; omega) (by omega) ?_)))
      intro a5 c5 w5 hO5 hk5 hf5 _
      have hK5 : Keeps Nil w w5 := hK4.out.step hk5 (fun k hk => .inr (hf.out k hk))
      have hO6 : Own w5 26 32 a5 c5 (j + 1) (byteV (L ++ [X]).flatten) := by rw [byteV_snoc]; exact hO5
      have hf6 : ∀ k, blkOf a5 k → w.heap.size ≤ k := fun k hk => by
        rcases hf5 k hk with h1 | h1
        · exact hf.out k h1
        · rw [h1]; have := hK4.out.size; rw [size_alloc'] at this; first | exact this | (rw [size_alloc']; exact this)
      have hl6 : (L ++ [X]).length = j + 1 := by rw [List.length_append, hL.out]; rfl
      have HX := Lib.hid (And.intro hO6 (And.intro hf6 (And.intro hK5 hl6)))
      clear hO5 hk5 hf5 hK5 hO6 hf6 hO4 hsrc hXl hl6
      go_wp2_with fail
      exact ⟨⟨a5, c5, L ++ [X], j + 1, rfl, by go_num, by omega, Lib.hid HX.out.2.2.2, hAX, Lib.hid HX.out.1, Lib.hid HX.out.2.2.1, Lib.hid HX.out.2.1⟩, by simp [intOf]; omega⟩
    · obtain rfl : j = n := by omega
      have hHs := Hs.own hO.out hA.out (by rw [hL.out]; omega)
      have hjc := hO.out.2.1
      have hcx := hO.out.2.2.1
      unfold maxLen at hcx
      have HP := Lib.hid (pathOk_walk (cap := ch) (i := i) hL.out hHs hjc (by omega) (by omega) (by omega))
      have HLA := Lib.hid (LongAt.start (h := L) (i := i) (by rw [hL.out]; omega))
      rw [hL.out] at HLA
      have HPA := Lib.hid (pathL_are j i L hL.out hA.out)
      have HPL := Lib.hid (pathL_len j i L hL.out)
      have hdl := depthN_le j i
      have HH := Lib.hid hHs
      have hj1 : ¬ (j : Int) < j := by omega
      generalize hPP : pathL i L = P at *
      clear hPP hO hf hHs
      go_wp2_with fail
      refine HP.out.mono ?_
      rintro e w2 ⟨a1, c1, rfl, ho, qk, _⟩
      have hPm : P.length ≤ 60 := by rw [HPL.out]; omega
      have HPh := Lib.hid (ho.hs HPA.out (by omega))
      have hPc := ho.2.1
      have hPx := ho.2.2.1
      unfold maxLen at hPx
      have HK2 := Lib.hid (hkr.out.trans qk)
      have HH2 := Lib.hid (HH.out.keep0 qk)
      clear HP ho qk HPL hdl HH hkr hA
      generalize hnP : P.length = nP at *
      have HNP := Lib.hid hnP
      clear hnP
      obtain ⟨wo, hwo⟩ : ∃ x, x = w2 := ⟨_, rfl⟩
      subst hwo
      have hUH := Tryd.undH
      have hgN := Tryd.guardH2
      go_wp2_with fail
      go_loopw [10, 11, 12, 13] (fun vl vh vk _ wi => ∃ (lo hi m : Nat), vl = .int .i64 lo ∧ vh = .int .i64 hi ∧ vk = .int .i64 ((m : Int) - 1) ∧ m ≤ nP ∧ lo ≤ i ∧ i < hi ∧ hi ≤ j ∧ Hid (LongAt L P i lo hi m) ∧ Hid (Keeps Nil wo wi)) (fun _ _ vk _ _ => (intOf vk + 1).toNat)
      case atStart => exact ⟨0, j, nP, rfl, rfl, rfl, Nat.le_refl _, Nat.zero_le _, by omega, Nat.le_refl _, HLA, Lib.hid (Keeps.refl _ _)⟩
      case round =>
        obtain ⟨lo, hi, m, rfl, rfl, rfl, hm, hlo, hih, hij, hla, hkr⟩ := hrel
        have hlo0 : (0 : Int) ≤ lo := by omega
        have hhi9 : (hi : Int) ≤ 60 := by omega
        cases m with
        | zero =>
          have hl := hla.out.last
          have h1 : (hi : Int) - lo = 1 := by omega
          have h2 : lo = i := hl.2
          subst h2
          clear hl
          go_wp2_with fail
          go_ret
          exact ⟨by first | rfl | simp, HK2.out.trans hkr.out⟩
        | succ m =>
          obtain ⟨h2, hl, hr⟩ := hla.out.step
          have hs1 := splitN_pos h2
          have hs2 := splitN_lt h2
          have HS := Lib.hid (refSplit_walk ((hi : Int) - lo) wr (by omega) (by omega))
          rw [show ((hi : Int) - lo).toNat = hi - lo by omega] at HS
          have hP := HPh.out.keep0 hkr.out
          have hHr := HH2.out.keep0 hkr.out
          obtain ⟨bP, oP, haP, hbP, hrP⟩ := hP.rng (by rw [HNP.out]; omega)
          have hld := hrP m (by rw [HNP.out]; omega)
          have hX := hP.are.at_ (i := m) (by rw [HNP.out]; omega)
          obtain ⟨b, off, ha, hb, _⟩ := hHr.rng (by rw [hL.out]; omega)
          subst ha haP
          generalize splitN (hi - lo) = s at *
          have hiX : (Tryd.prog.info? 26).map (·.size) = some (byteV (P.getD m [])).length := by rw [byteV_len, hX.1]; exact Tryd.infoH
          have hqN := fun w => Tryd.neqDig hX.1 hX.1 hX.2 hX.2 w
          rw [bne_self_eq_false] at hqN
          obtain ⟨mm, hmm⟩ : ∃ mm, mm = lo + s := ⟨_, rfl⟩
          have hmI : (lo : Int) + s = mm := by omega
          have hd1 : ((m + 1 : Nat) : Int) - 1 = m := by omega
          have hd2 : ¬ (hi : Int) - lo < 2 := by omega
          have hmn : m < nP := by omega
          have hmn2 : (m : Int) < nP := by omega
          have hm0 : (0 : Int) ≤ m := by omega
          have hmm1 : (mm : Int) ≤ hi := by omega
          have hmm0 : (0 : Int) ≤ mm := by omega
          have hmm2 : mm < hi := by omega
          have hlm : (lo : Int) ≤ mm := by omega
          have hhc : (hi : Int) ≤ ch := by omega
          have hmc : (mm : Int) ≤ ch := by omega
          have hch : (ch : Int) ≤ 9223372036854775807 := by omega
          have hnc : (nP : Int) ≤ c1 := by omega
          rw [← hmm] at hl hr
          have HD := Lib.hid hd1
          have HM := Lib.hid hmI
          have HLR := Lib.hid (And.intro hl hr)
          have HMM := Lib.hid hmm
          clear hl hr hmI hd1 hmm hrP hb hbP
          rw [HD.out]
          generalize P.getD m [] = X at *
          by_cases him : i < mm
          · have hQ0 := (hHr.take hi).drop mm
            rw [Addr.add_lit] at hQ0
            have hQ : Hs wr (some ⟨b, off + mm * 32, none⟩) (segL L mm hi) := hQ0
            have HLQ := Lib.hid (segL_len (l := L) (lo := mm) (hi := hi) (by rw [hL.out]; exact hij))
            have HEQ := Lib.hid (show X = rootL (segL L mm hi) from (HLR.out.1 him).1)
            have HNX := Lib.hid (HLR.out.1 him).2
            have him' : (i : Int) < mm := by omega
            have him2 : (i : Int) < (lo : Int) + s := by have := HMM.out; omega
            clear hQ0 hP hHr hla
            generalize segL L mm hi = lQ at *
            go_wp2_with fail
            refine HS.out.mono ?_
            rintro e w3 ⟨rfl, rfl⟩
            go_wp2_with fail
            rw [HM.out]
            -- the part mm .. hi of length hi - mm, its digests lQ
            go_wp2_with fail
            refine wp_region_held_drew (S := fun w' => Keeps Nil wr.drew w') (by kernel_rfl) (Keeps.refl _ _) (fun hHeld => ?_)
            have hKB := hkr.out.drew
            replace hld := rangeAt_keep hld (Keeps.refl Nil wr).drew (fun h => h)
            replace hQ := hQ.keep0 (Keeps.refl Nil wr).drew
            generalize wr.drew = v0 at *
            refine takeL (i := 0) (v := _) rfl (by kernel_rfl) (by kernel_rfl) (by kernel_rfl) (fun _ _ _ h => h) (Or.inl ⟨by rfl, by intro w hSw; (try dsimp only at hSw); go_simp; try with_reducible rfl⟩) (by assumption) ?_
            try simp only [Act.put, List.setIfInBounds_toArray, List.set_cons_zero, List.set_cons_succ]
            refine takeL (i := 1) (v := _) rfl (by kernel_rfl) (by kernel_rfl) (by kernel_rfl) (fun _ _ _ h => h) (Or.inl ⟨by rfl, by intro w hSw; (try dsimp only at hSw); go_simp; try with_reducible rfl⟩) (by assumption) ?_
            try simp only [Act.put, List.setIfInBounds_toArray, List.set_cons_zero, List.set_cons_succ]
            refine takeL (i := 2) (v := _) rfl (by kernel_rfl) (by kernel_rfl) (by kernel_rfl) (fun _ _ _ h => h) (Or.inl ⟨by rfl, by intro w hSw; (try dsimp only at hSw); go_simp; try with_reducible rfl⟩) (by assumption) ?_
            try simp only [Act.put, List.setIfInBounds_toArray, List.set_cons_zero, List.set_cons_succ]
            refine takeL (i := 3) (v := _) rfl (by kernel_rfl) (by kernel_rfl) (by kernel_rfl) (fun _ _ _ h => h) (yieldsIf_load_mid (by rfl) 26 _ rfl bP (oP+m*32) rfl (byteV X) _ (fun w hSw => (rangeAt_keep hld hSw (fun h => h))) hUH rfl hiX) (by assumption) ?_
            try simp only [Act.put, List.setIfInBounds_toArray, List.set_cons_zero, List.set_cons_succ]
            refine takeL (i := 4) (v := _) rfl (by kernel_rfl) (by kernel_rfl) (by kernel_rfl) (fun _ _ _ h => h) (Or.inl ⟨by rfl, by intro w hSw; (try dsimp only at hSw); go_simp; try with_reducible rfl⟩) (by assumption) ?_
            try simp only [Act.put, List.setIfInBounds_toArray, List.set_cons_zero, List.set_cons_succ]
            refine takeL (i := 5) (v := _) rfl (by kernel_rfl) (by kernel_rfl) (by kernel_rfl) (fun _ _ _ h => h) (Or.inl ⟨by rfl, by intro w hSw; (try dsimp only at hSw); go_simp; try with_reducible rfl⟩) (by assumption) ?_
            try simp only [Act.put, List.setIfInBounds_toArray, List.set_cons_zero, List.set_cons_succ]
            refine takeL (i := 6) (v := _) rfl (by kernel_rfl) (by kernel_rfl) (by kernel_rfl) (fun _ _ _ h => h) (Or.inl ⟨by rfl, by intro w hSw; (try dsimp only at hSw); go_simp; try with_reducible rfl⟩) (by assumption) ?_
            try simp only [Act.put, List.setIfInBounds_toArray, List.set_cons_zero, List.set_cons_succ]
            refine takeL (i := 7) (v := _) rfl (by kernel_rfl) (by kernel_rfl) (by kernel_rfl) (fun _ _ _ h => h) (Or.inl ⟨by rfl, by intro w hSw; (try dsimp only at hSw); go_simp; try with_reducible rfl⟩) (by assumption) ?_
            try simp only [Act.put, List.setIfInBounds_toArray, List.set_cons_zero, List.set_cons_succ]
            have hQ2 : Hs v0 (if ch = mm then some ⟨b, off, none⟩ else some ⟨b, off + mm * 32, none⟩) lQ := by rw [if_neg (by omega)]; exact hQ
            generalize (if ch = mm then (some ⟨b, off, none⟩ : Option Addr) else some ⟨b, off + mm * 32, none⟩) = aD at *
            clear hQ
            refine onlyL (i := 8) rfl (by kernel_rfl) (fun K hK => ?_)
            go_simp
            refine (refRoot_walk (hi - mm) HLQ.out hQ2 (by omega) (by omega)).mono ?_
            rintro e w4 ⟨rfl, qk⟩
            rw [← HEQ.out]
            have hKC := hKB.trans qk
            refine (fun hHeld => hK _ _ hHeld ?_) (qk)
            clear hK
            try simp only [Act.put, List.setIfInBounds_toArray, List.set_cons_zero, List.set_cons_succ]
            refine takeL (i := 9) (v := _) rfl (by kernel_rfl) (by kernel_rfl) (by kernel_rfl) (fun _ _ _ h => h) (yieldsIf_bin (by rfl) _ _ _ _ _ rfl _ _ rfl rfl _ hqN (hgN _ _ _ _ _)) (by assumption) ?_
            try simp only [Act.put, List.setIfInBounds_toArray, List.set_cons_zero, List.set_cons_succ]
            refine wpAnyH_done (by kernel_rfl) ?_ _
            have HK := Lib.hid hKC
            clear hKC hKB qk hld hQ2
            go_wp2_with fail
            exact ⟨⟨lo, mm, m, rfl, rfl, rfl, by omega, hlo, him, by omega, HNX, HK⟩, by first | (simp [intOf]; done) | (simp [intOf]; omega)⟩
          · have hQ0 := (hHr.take mm).drop lo
            rw [Addr.add_lit] at hQ0
            have hQ : Hs wr (some ⟨b, off + lo * 32, none⟩) (segL L lo mm) := hQ0
            have HLQ := Lib.hid (segL_len (l := L) (lo := lo) (hi := mm) (by rw [hL.out]; omega))
            have HEQ := Lib.hid (show X = rootL (segL L lo mm) from (HLR.out.2 (by omega)).1)
            have HNX := Lib.hid (HLR.out.2 (by omega)).2
            have him' : ¬ (i : Int) < mm := by omega
            have him2 : ¬ (i : Int) < (lo : Int) + s := by have := HMM.out; omega
            clear hQ0 hP hHr hla
            generalize segL L lo mm = lQ at *
            go_wp2_with fail
            refine HS.out.mono ?_
            rintro e w3 ⟨rfl, rfl⟩
            go_wp2_with fail
            rw [HM.out]
            -- the part lo .. mm of length mm - lo, its digests lQ
            go_wp2_with fail
            refine wp_region_held_drew (S := fun w' => Keeps Nil wr.drew w') (by kernel_rfl) (Keeps.refl _ _) (fun hHeld => ?_)
            have hKB := hkr.out.drew
            replace hld := rangeAt_keep hld (Keeps.refl Nil wr).drew (fun h => h)
            replace hQ := hQ.keep0 (Keeps.refl Nil wr).drew
            generalize wr.drew = v0 at *
            refine takeL (i := 0) (v := _) rfl (by kernel_rfl) (by kernel_rfl) (by kernel_rfl) (fun _ _ _ h => h) (Or.inl ⟨by rfl, by intro w hSw; (try dsimp only at hSw); go_simp; try with_reducible rfl⟩) (by assumption) ?_
            try simp only [Act.put, List.setIfInBounds_toArray, List.set_cons_zero, List.set_cons_succ]
            refine takeL (i := 1) (v := _) rfl (by kernel_rfl) (by kernel_rfl) (by kernel_rfl) (fun _ _ _ h => h) (Or.inl ⟨by rfl, by intro w hSw; (try dsimp only at hSw); go_simp; try with_reducible rfl⟩) (by assumption) ?_
            try simp only [Act.put, List.setIfInBounds_toArray, List.set_cons_zero, List.set_cons_succ]
            refine takeL (i := 2) (v := _) rfl (by kernel_rfl) (by kernel_rfl) (by kernel_rfl) (fun _ _ _ h => h) (Or.inl ⟨by rfl, by intro w hSw; (try dsimp only at hSw); go_simp; try with_reducible rfl⟩) (by assumption) ?_
            try simp only [Act.put, List.setIfInBounds_toArray, List.set_cons_zero, List.set_cons_succ]
            refine takeL (i := 3) (v := _) rfl (by kernel_rfl) (by kernel_rfl) (by kernel_rfl) (fun _ _ _ h => h) (yieldsIf_load_mid (by rfl) 26 _ rfl bP (oP+m*32) rfl (byteV X) _ (fun w hSw => (rangeAt_keep hld hSw (fun h => h))) hUH rfl hiX) (by assumption) ?_
            try simp only [Act.put, List.setIfInBounds_toArray, List.set_cons_zero, List.set_cons_succ]
            refine takeL (i := 4) (v := _) rfl (by kernel_rfl) (by kernel_rfl) (by kernel_rfl) (fun _ _ _ h => h) (Or.inl ⟨by rfl, by intro w hSw; (try dsimp only at hSw); go_simp; try with_reducible rfl⟩) (by assumption) ?_
            try simp only [Act.put, List.setIfInBounds_toArray, List.set_cons_zero, List.set_cons_succ]
            refine takeL (i := 5) (v := _) rfl (by kernel_rfl) (by kernel_rfl) (by kernel_rfl) (fun _ _ _ h => h) (Or.inl ⟨by rfl, by intro w hSw; (try dsimp only at hSw); go_simp; try with_reducible rfl⟩) (by assumption) ?_
            try simp only [Act.put, List.setIfInBounds_toArray, List.set_cons_zero, List.set_cons_succ]
            refine takeL (i := 6) (v := _) rfl (by kernel_rfl) (by kernel_rfl) (by kernel_rfl) (fun _ _ _ h => h) (Or.inl ⟨by rfl, by intro w hSw; (try dsimp only at hSw); go_simp; try with_reducible rfl⟩) (by assumption) ?_
            try simp only [Act.put, List.setIfInBounds_toArray, List.set_cons_zero, List.set_cons_succ]
            refine takeL (i := 7) (v := _) rfl (by kernel_rfl) (by kernel_rfl) (by kernel_rfl) (fun _ _ _ h => h) (Or.inl ⟨by rfl, by intro w hSw; (try dsimp only at hSw); go_simp; try with_reducible rfl⟩) (by assumption) ?_
            try simp only [Act.put, List.setIfInBounds_toArray, List.set_cons_zero, List.set_cons_succ]
            have hQ2 : Hs v0 (if ch = lo then some ⟨b, off, none⟩ else some ⟨b, off + lo * 32, none⟩) lQ := by rw [if_neg (by omega)]; exact hQ
            generalize (if ch = lo then (some ⟨b, off, none⟩ : Option Addr) else some ⟨b, off + lo * 32, none⟩) = aD at *
            clear hQ
            refine onlyL (i := 8) rfl (by kernel_rfl) (fun K hK => ?_)
            go_simp
            refine (refRoot_walk (mm - lo) HLQ.out hQ2 (by omega) (by omega)).mono ?_
            rintro e w4 ⟨rfl, qk⟩
            rw [← HEQ.out]
            have hKC := hKB.trans qk
            refine (fun hHeld => hK _ _ hHeld ?_) (qk)
            clear hK
            try simp only [Act.put, List.setIfInBounds_toArray, List.set_cons_zero, List.set_cons_succ]
            refine takeL (i := 9) (v := _) rfl (by kernel_rfl) (by kernel_rfl) (by kernel_rfl) (fun _ _ _ h => h) (yieldsIf_bin (by rfl) _ _ _ _ _ rfl _ _ rfl rfl _ hqN (hgN _ _ _ _ _)) (by assumption) ?_
            try simp only [Act.put, List.setIfInBounds_toArray, List.set_cons_zero, List.set_cons_succ]
            refine wpAnyH_done (by kernel_rfl) ?_ _
            have HK := Lib.hid hKC
            clear hKC hKB qk hld hQ2
            go_wp2_with fail
            exact ⟨⟨mm, hi, m, rfl, rfl, rfl, by omega, by omega, hih, hij, HNX, HK⟩, by first | (simp [intOf]; done) | (simp [intOf]; omega)⟩
end Go.Proofs.YtmbdldnldcgdjaaDoor
