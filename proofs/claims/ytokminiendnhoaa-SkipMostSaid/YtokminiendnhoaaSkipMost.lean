/-
  Chapter 14: SkipMost's walk.
-/
import Derived.Test.YtokminiendnhoaaSkipMostPlain
import Derived.Test.YtokminiendnhoaaSkipPlays
namespace Go.Proofs.Ytokminiendnhoaa
set_option linter.unusedSimpArgs false
set_option linter.unusedVariables false
open Go.RowKit

theorem entV_key {e : Ent} (he : WfE e) {w : World} {b o : Nat} (hr : w.rangeAt b o (entV e)) : w.rangeAt b (o + 32) (byteV e.2.1) := fun t v hv => by
  have ht := (List.getElem?_eq_some_iff.1 hv).1
  have ht2 : t < 32 := by simp [byteV, he.l2] at ht; exact ht
  have := hr (32 + t) v (by
    unfold entV
    rw [List.getElem?_append_right (by simp [byteV, he.l1]), List.getElem?_append_left (by simp [byteV, he.l1, he.l2]; omega)]
    simpa [byteV, he.l1] using hv)
  rw [Nat.add_assoc]
  exact this
theorem entV_num {e : Ent} (he : WfE e) {w : World} {b o : Nat} (hr : w.rangeAt b o (entV e)) : w.cell? ⟨b, o + 64, none⟩ = some (.int .u32 e.2.2) := hr 64 _ (by
  unfold entV
  rw [List.getElem?_append_right (by simp [byteV, he.l1]), List.getElem?_append_right (by simp [byteV, he.l1, he.l2])]
  simp [byteV, he.l1, he.l2])
/-- All's entries, the first j of them changed. -/
def Zapped (w : World) (ga : Nat) (n j : Nat) : Prop :=
  ∃ cs, Blk w ga cs 42 ∧ 2600 ≤ cs.length ∧ ∀ i, j ≤ i → i < 40 → w.rangeAt ga (i * 65) (entV (entM (n + i)))
theorem Zapped.keep {w w' : World} {ga n j : Nat} (h : Zapped w ga n j) (hk : Keeps Nil w w') : Zapped w' ga n j := by
  obtain ⟨cs, hb, hl, hr⟩ := h
  exact ⟨cs, hb.keep0 hk, hl, fun i h1 h2 t v hv => hk.cell (hr i h1 h2 t v hv) (fun h => h)⟩
theorem Zapped.start {w : World} {ga c n : Nat} (h : Own w 42 65 (some ⟨ga, 0, none⟩) c 40 (entsV (listM (40 + n)))) (hn : n < 900) : Zapped w ga n 0 := by
  obtain ⟨hl, hc, hm, h4⟩ := h
  rcases h4 with ⟨h5, _⟩ | ⟨g, sp, h5, hb, hl4⟩
  · cases h5
  · cases h5
    refine ⟨_, hb, by omega, fun i _ hi t v hv => hb.cell _ ?_⟩
    have hg : (listM (40 + n))[i]? = some (entM (n + i)) := by
      rw [listM_get (by omega), show 40 + n - 40 + i = n + i by omega]
    have := entsV_at (listM_wf (by omega)) i _ hg t v hv
    rw [List.getElem?_append_left (List.getElem?_eq_some_iff.1 this).1]
    exact this
theorem Zapped.next {w w' : World} {ga n j : Nat} {cs vs : List Value} (hl : 2600 ≤ cs.length) (hr : ∀ i, j ≤ i → i < 40 → w.rangeAt ga (i * 65) (entV (entM (n + i)))) (hb : Blk w ga cs 42) (hv : vs.length = 32) (hj : j < 40)
    (hb' : Blk w' ga (splice cs (j * 65 + 32) vs) 42) (hn : n < 900) : Zapped w' ga n (j + 1) := by
  refine ⟨_, hb', by rw [splice_length _ _ _ (by omega)]; exact hl, fun i h1 h2 t v hv' => hb'.cell _ ?_⟩
  rw [splice_ge (by omega) (by omega)]
  have h3 := hr i (by omega) h2 t v hv'
  have ht := (List.getElem?_eq_some_iff.1 hv').1
  rw [(entM_wf (show n + i < 4294967296 by omega)).len] at ht
  have h4 := hb.cell (i * 65 + t) (v := cs[i * 65 + t]'(by omega)) (List.getElem?_eq_getElem (by omega))
  rw [h4] at h3
  rw [List.getElem?_eq_getElem (by omega)]
  exact h3
theorem allM_walk {w : World} {g c : Nat} {a : Option Addr} {L : List Ent} (h : IsSt 34 42 w g a c L) (hl : L.length = 40) :
    Calls Try.prog 19 #[.pointer (some ⟨g, 0, none⟩)] w fun e w' => ∃ ga ca, e = .returned (.slice (some ⟨ga, 0, none⟩) 40 ca) ∧ Own w' 42 65 (some ⟨ga, 0, none⟩) ca 40 (entsV L) ∧ Keeps Nil w w' ∧ w.heap.size ≤ ga ∧ 40 ≤ ca ∧ ca ≤ 9223372036854775807 :=
  (all_walk h (by omega)).mono (by
    rintro e w' ⟨ar, cr, he, ho, hk, hf⟩
    rw [hl] at he ho
    obtain ⟨ga, ha, _, _⟩ := ho.some (by omega)
    subst ha
    have hm := ho.2.2.1
    unfold maxLen at hm
    exact ⟨ga, cr, he, ho, hk, hf ga ((blkOf_some _ _ _ _).2 rfl), ho.2.1, by omega⟩)
set_option maxRecDepth 100000 in
set_option maxHeartbeats 3200000 in
theorem skipMost_walk (a0 a1 : Int) (w : World) (wf0 : (Lit.int .i64 a0).wf = true) (wf1 : (Lit.int .i64 a1).wf = true) :
    Calls Try.prog 7 #[.int .i64 a0, .int .i64 a1] w fun e w' => e = .returned (.bool true) ∧ Keeps Nil w w' := by
  have HFI := Lib.hid (skipfirst_walk w)
  have hw0 := i64_wf wf0
  have hw1 := i64_wf wf1
  clear wf0 wf1
  obtain ⟨n, hnn⟩ := Int.eq_ofNat_of_zero_le (Int.emod_nonneg a0 (b := 30) (by omega))
  have hn30 : n < 30 := by have := Int.emod_lt_of_pos a0 (b := 30) (by omega); omega
  have HNN := Lib.hid (fun w => number_walk a0 30 w hw0.1 hw0.2 (by omega) (by omega))
  rw [hnn] at HNN
  obtain ⟨q, hqq⟩ := Int.eq_ofNat_of_zero_le (Int.emod_nonneg a1 (b := (n : Int) + 1) (by omega))
  have hqn : q ≤ n := by have := Int.emod_lt_of_pos a1 (b := (n : Int) + 1) (by omega); omega
  have HNQ := Lib.hid (fun w => number_walk a1 ((n : Int) + 1) w hw1.1 hw1.2 (by omega) (by omega))
  rw [hqq] at HNQ
  clear hw0 hw1 hnn hqq
  obtain ⟨zk, hzl, hzv⟩ := Try.zeroKeyV
  have HZL := Lib.hid hzl
  clear hzl
  go_enter Try.func7, Try.ntmps7
  go_wp2_with fail
  refine HFI.out.mono ?_
  rintro e w1 ⟨rfl, hk1⟩
  have HK1 := Lib.hid hk1
  clear hk1
  go_wp2_with fail
  refine (HNN.out _).mono ?_
  rintro e w2 ⟨rfl, rfl⟩
  obtain ⟨wA, gs, hgs, hbs, hwA, hkA⟩ := alloc1 w1 [.slice none 0 0] 34
  have HWA : Hid (w1.alloc (.cells #[.slice none 0 0] 34) = wA) := Lib.hid hwA.symm
  have HGS := Lib.hid hgs.symm
  have HS0 : Hid (IsSt 34 42 wA gs none 0 (listM 0)) := Lib.hid ⟨hbs, Own.nil _ _ _, blkOf_none _, fun e he => by cases he⟩
  have HK2 := Lib.hid (HK1.out.trans hkA)
  have hgw : w.heap.size ≤ gs := by rw [hgs]; exact HK1.out.size
  have HGW := Lib.hid hgw
  clear hgs hbs hwA hkA hgw
  go_upto_region 6 with fail
  rw [HWA.out, HGS.out]
  go_wp2_with fail
  go_loopw [7] (fun x wr => ∃ (j : Nat) (a : Option Addr) (c : Nat), x = .int .i64 j ∧ j ≤ 40 + n ∧ Hid (IsSt 34 42 wr gs a c (listM j)) ∧ Hid (Keeps Nil w wr) ∧ Hid (∀ k, stOf gs a k → w.heap.size ≤ k)) (fun x _ => 40 + n - (intOf x).toNat)
  case atStart => exact ⟨0, none, 0, rfl, Nat.zero_le _, HS0, HK2, Lib.hid (fun k hk => by
    rcases hk with rfl | hk
    · exact HGW.out
    · exact (blkOf_none _ hk).elim)⟩
  case round =>
    obtain ⟨j, a, c, rfl, hj, hS, hK, hF⟩ := hrel
    by_cases hjl : j < 40 + n
    · have hj1 : (j : Int) < 40 + n := by omega
      have hj0 : (0 : Int) ≤ j := by omega
      have hwrap : IntKind.u32.wrap (j : Int) = (j : Int) := IntWalk.u32_in _ (by omega)
      have HKY := Lib.hid (fun w => show Calls Try.prog 18 #[.int .i64 (j : Int)] w (fun e w' => e = .returned (.agg (byteV (keyOf (j : Int))).toArray) ∧ Keeps Nil w w') from key_walk (j : Int) w (by omega) (by omega))
      have HPU := Lib.hid (putM j)
      have HWE := Lib.hid (entM_wf (show j < 4294967296 by omega))
      have hll := listM_len j
      go_wp2_with (refine wpl_buildC rfl 37 0 _ rfl _ (Try.builtKey1 _) ?_)
      refine (HKY.out _).mono ?_
      rintro e w3 ⟨rfl, hk3⟩
      have HS3 := Lib.hid (hS.out.keep0 hk3)
      have HK3 := Lib.hid (hK.out.trans hk3)
      clear hk3
      go_wp2_with fail
      refine (put_walk HS3.out (by omega) (key1 7) (keyOf (j : Int)) j HWE.out).mono ?_
      rintro e w4 ⟨a4, c4, rfl, hS4, hk4, hf4⟩
      rw [HPU.out] at hS4
      have HX := Lib.hid (And.intro hS4 (And.intro (HK3.out.step hk4 (fun k hk => .inr (hF.out k hk))) (fun k (hk : stOf gs a4 k) => (hf4 k hk).elim (hF.out k) (fun e => Nat.le_trans HK3.out.size e))))
      clear hS4 hk4 hf4
      go_wp2_with fail
      exact ⟨⟨j + 1, a4, c4, by go_num, by omega, Lib.hid HX.out.1, Lib.hid HX.out.2.1, Lib.hid HX.out.2.2⟩, by first | (simp [intOf]; done) | (simp [intOf]; omega)⟩
    · have hj40 : j = 40 + n := by omega
      have hjn : ¬ ((j : Int) < 40 + n) := by omega
      have HLL : Hid ((listM (40 + n)).length = 40) := Lib.hid (by rw [listM_len]; omega)
      have HLW := Lib.hid (listM_wf (j := 40 + n) (by omega))
      have HLA := Lib.hid (listM_apart (40 + n))
      have hS2 := hS.out
      rw [hj40] at hS2
      have HS := Lib.hid (And.intro hS2 (And.intro hK.out hF.out))
      clear hS2 hS hK hF HS0 HK2 hj40
      go_wp2_with fail
      refine (allM_walk HS.out.1 HLL.out).mono ?_
      rintro e w3 ⟨ga, ca, rfl, hoa, hk3, hfa, hc1, hc2⟩
      have HS3 := Lib.hid (And.intro (HS.out.1.keep0 hk3) (And.intro (HS.out.2.1.trans hk3) HS.out.2.2))
      have HZ := Lib.hid (Zapped.start hoa (by omega))
      have hag : ∀ k, stOf gs a k → k ≠ ga := fun k hk => by have := HS.out.1.lt k hk; omega
      have hwg : w.heap.size ≤ ga := Nat.le_trans HS.out.2.1.size hfa
      have HAG := Lib.hid (And.intro hag hwg)
      clear hoa hk3 hfa HS hag hwg
      go_wp2_with fail
      go_loopw [9] (fun x wr => ∃ (j : Nat), x = .int .i64 j ∧ j ≤ 40 ∧ Hid (Zapped wr ga n j) ∧ Hid (IsSt 34 42 wr gs a c (listM (40 + n)) ∧ Keeps Nil w wr ∧ ∀ k, stOf gs a k → w.heap.size ≤ k)) (fun x _ => 40 - (intOf x).toNat)
      case atStart => exact ⟨0, rfl, by omega, HZ, HS3⟩
      case round =>
        obtain ⟨i, rfl, hi, hZ, hT⟩ := hrel
        by_cases hi40 : i < 40
        · have hi1 : (i : Int) < 40 := by omega
          have hi0 : (0 : Int) ≤ i := by omega
          obtain ⟨cs, hb, hcl, hr⟩ := hZ.out
          have hwe := entM_wf (show n + i < 4294967296 by omega)
          have hri := hr i (Nat.le_refl _) hi40
          have hrk := entV_key hwe hri
          have hcn := entV_num hwe hri
          have hrk2 : wr.rangeAt ga (i * 65 + 32) (byteV (keyOf ((n + i : Nat) : Int))) := hrk
          have hcn2 : wr.cell? ⟨ga, i * 65 + 64, none⟩ = some (.int .u32 ((n + i : Nat) : Int)) := hcn
          obtain ⟨X, hX⟩ : ∃ X : Int, X = ((n + i : Nat) : Int) := ⟨_, rfl⟩
          rw [← hX] at hrk2 hcn2
          have hXb : 0 ≤ X ∧ X < 1000 := by omega
          have hw1 : IntKind.i64.wrap ((n : Int) + (i : Int)) = X := by rw [show (n : Int) + i = X by omega]; exact IntWalk.i64_in _ (by omega)
          have hw2 : IntKind.u32.wrap X = X := IntWalk.u32_in _ (by omega)
          have HKY := Lib.hid (fun w => show Calls Try.prog 18 #[.int .i64 X] w (fun e w' => e = .returned (.agg (byteV (keyOf X)).toArray) ∧ Keeps Nil w w') from key_walk X w (by omega) (by omega))
          have hQ := Try.neqS (keyOf_len X) (keyOf_bytes X)
          have hIK : (Try.prog.info? 37).map (·.size) = some (byteV (keyOf X)).length := by rw [keyV_len (keyOf_len X)]; exact Try.infoKey
          have hUK := Try.undKey
          have HZZ := Lib.hid (And.intro hcl (And.intro hr hb))
          clear hX hXb hri hrk hcn hwe hr hb hcl hZ
          generalize keyOf X = E at *
          go_upto_region 16 with fail
          refine wp_region_held_drew (S := fun w' => w'.cell? ⟨ga, i * 65 + 64, none⟩ = some (.int .u32 X) ∧ w'.rangeAt ga (i * 65 + 32) (byteV E)) (by kernel_rfl) ⟨hcn2, hrk2⟩ (fun hHeld => ?_)
          have hg := fun (U V : List Value) (x y : Operand) (w : World) => Try.guardK .neq x y U.toArray V.toArray w
          have hkd : Keeps Nil wr wr.drew := (Keeps.refl Nil wr).drew
          have HKD := Lib.hid hkd
          clear hkd hcn2 hrk2
          generalize wr.drew = v0 at *
          generalize hVV : byteV E = V at *
          refine takeL (i := 0) (v := _) rfl (by kernel_rfl) (by kernel_rfl) (by kernel_rfl) (fun _ _ _ h => h) (Or.inl ⟨by rfl, by intro w hSw; (try dsimp only at hSw); go_simp; try with_reducible rfl⟩) (by assumption) ?_
          try simp only [Act.put, List.setIfInBounds_toArray, List.set_cons_zero, List.set_cons_succ]
          refine takeL (i := 1) (v := _) rfl (by kernel_rfl) (by kernel_rfl) (by kernel_rfl) (fun _ _ _ h => h) (Or.inl ⟨by rfl, by intro w hSw; (try dsimp only at hSw); go_simp; try with_reducible rfl⟩) (by assumption) ?_
          try simp only [Act.put, List.setIfInBounds_toArray, List.set_cons_zero, List.set_cons_succ]
          refine takeL (i := 2) (v := _) rfl (by kernel_rfl) (by kernel_rfl) (by kernel_rfl) (fun _ _ _ h => h) (Or.inl ⟨by rfl, by intro w hSw; (try dsimp only at hSw); go_simp; try with_reducible rfl⟩) (by assumption) ?_
          try simp only [Act.put, List.setIfInBounds_toArray, List.set_cons_zero, List.set_cons_succ]
          refine takeL (i := 3) (v := _) rfl (by kernel_rfl) (by kernel_rfl) (by kernel_rfl) (fun _ _ _ h => h) (Or.inl ⟨by rfl, by intro w hSw; (try dsimp only at hSw); go_simp; try with_reducible rfl⟩) (by assumption) ?_
          try simp only [Act.put, List.setIfInBounds_toArray, List.set_cons_zero, List.set_cons_succ]
          refine takeL (i := 4) (v := _) rfl (by kernel_rfl) (by kernel_rfl) (by kernel_rfl) (fun _ _ _ h => h) (Or.inl ⟨by rfl, by intro w hSw; (try dsimp only at hSw); go_simp; try with_reducible rfl⟩) (by assumption) ?_
          try simp only [Act.put, List.setIfInBounds_toArray, List.set_cons_zero, List.set_cons_succ]
          refine takeL (i := 5) (v := _) rfl (by kernel_rfl) (by kernel_rfl) (by kernel_rfl) (fun _ _ _ h => h) (Or.inl ⟨by rfl, by intro w hSw; (try dsimp only at hSw); go_simp; try with_reducible rfl⟩) (by assumption) ?_
          try simp only [Act.put, List.setIfInBounds_toArray, List.set_cons_zero, List.set_cons_succ]
          refine takeL (i := 6) (v := _) rfl (by kernel_rfl) (by kernel_rfl) (by kernel_rfl) (fun _ _ _ h => h) (Or.inl ⟨by rfl, by intro w hSw; (try dsimp only at hSw); go_simp; try with_reducible rfl⟩) (by assumption) ?_
          try simp only [Act.put, List.setIfInBounds_toArray, List.set_cons_zero, List.set_cons_succ]
          refine takeL (i := 7) (v := _) rfl (by kernel_rfl) (by kernel_rfl) (by kernel_rfl) (fun _ _ _ h => h) (Or.inl ⟨by rfl, by intro w hSw; (try dsimp only at hSw); go_simp; try with_reducible rfl⟩) (by assumption) ?_
          try simp only [Act.put, List.setIfInBounds_toArray, List.set_cons_zero, List.set_cons_succ]
          refine takeL (i := 8) (v := _) rfl (by kernel_rfl) (by kernel_rfl) (by kernel_rfl) (fun _ _ _ h => h) (Or.inl ⟨by rfl, by intro w hSw; (try dsimp only at hSw); go_simp; try with_reducible rfl⟩) (by assumption) ?_
          try simp only [Act.put, List.setIfInBounds_toArray, List.set_cons_zero, List.set_cons_succ]
          refine takeL (i := 9) (v := _) rfl (by kernel_rfl) (by kernel_rfl) (by kernel_rfl) (fun _ _ _ h => h) (Or.inl ⟨by rfl, by intro w hSw; (try dsimp only at hSw); go_simp; try with_reducible rfl⟩) (by assumption) ?_
          try simp only [Act.put, List.setIfInBounds_toArray, List.set_cons_zero, List.set_cons_succ]
          refine takeL (i := 10) (v := _) rfl (by kernel_rfl) (by kernel_rfl) (by kernel_rfl) (fun _ _ _ h => h) (Or.inl ⟨by rfl, by intro w hSw; (try dsimp only at hSw); go_simp; try with_reducible rfl⟩) (by assumption) ?_
          try simp only [Act.put, List.setIfInBounds_toArray, List.set_cons_zero, List.set_cons_succ]
          refine takeL (i := 11) (v := _) rfl (by kernel_rfl) (by kernel_rfl) (by kernel_rfl) (fun _ _ _ h => h) (Or.inl ⟨by rfl, by intro w hSw; (try dsimp only at hSw); go_simp; try with_reducible rfl⟩) (by assumption) ?_
          try simp only [Act.put, List.setIfInBounds_toArray, List.set_cons_zero, List.set_cons_succ]
          refine takeL (i := 12) (v := _) rfl (by kernel_rfl) (by kernel_rfl) (by kernel_rfl) (fun _ _ _ h => h) (Or.inl ⟨by rfl, by intro w hSw; (try dsimp only at hSw); go_simp; try with_reducible rfl⟩) (by assumption) ?_
          try simp only [Act.put, List.setIfInBounds_toArray, List.set_cons_zero, List.set_cons_succ]
          refine takeL (i := 13) (v := _) rfl (by kernel_rfl) (by kernel_rfl) (by kernel_rfl) (fun _ _ _ h => h) (Or.inl ⟨by rfl, by intro w hSw; (try dsimp only at hSw); go_simp; try with_reducible rfl⟩) (by assumption) ?_
          try simp only [Act.put, List.setIfInBounds_toArray, List.set_cons_zero, List.set_cons_succ]
          refine takeL (i := 14) (v := _) rfl (by kernel_rfl) (by kernel_rfl) (by kernel_rfl) (fun _ _ _ h => h) (Or.inl ⟨by rfl, by intro w hSw; (try dsimp only at hSw); go_simp; try with_reducible rfl⟩) (by assumption) ?_
          try simp only [Act.put, List.setIfInBounds_toArray, List.set_cons_zero, List.set_cons_succ]
          refine takeL (i := 15) (v := _) rfl (by kernel_rfl) (by kernel_rfl) (by kernel_rfl) (fun _ _ _ h => h) (yieldsIf_load_mid (by rfl) 37 _ rfl ga (i*65+32) rfl (V) _ (fun w hSw => hSw.2) hUK rfl hIK) (by assumption) ?_
          try simp only [Act.put, List.setIfInBounds_toArray, List.set_cons_zero, List.set_cons_succ]
          refine takeL (i := 16) (v := _) rfl (by kernel_rfl) (by kernel_rfl) (by kernel_rfl) (fun _ _ _ h => h) (Or.inl ⟨by rfl, by intro w hSw; (try dsimp only at hSw); go_simp; try with_reducible rfl⟩) (by assumption) ?_
          try simp only [Act.put, List.setIfInBounds_toArray, List.set_cons_zero, List.set_cons_succ]
          refine takeL (i := 17) (v := _) rfl (by kernel_rfl) (by kernel_rfl) (by kernel_rfl) (fun _ _ _ h => h) (Or.inl ⟨by rfl, by intro w hSw; (try dsimp only at hSw); go_simp; try with_reducible rfl⟩) (by assumption) ?_
          try simp only [Act.put, List.setIfInBounds_toArray, List.set_cons_zero, List.set_cons_succ]
          refine takeL (i := 18) (v := _) rfl (by kernel_rfl) (by kernel_rfl) (by kernel_rfl) (fun _ _ _ h => h) (Or.inl ⟨by rfl, by intro w hSw; (try dsimp only at hSw); go_simp; try with_reducible rfl⟩) (by assumption) ?_
          try simp only [Act.put, List.setIfInBounds_toArray, List.set_cons_zero, List.set_cons_succ]
          refine onlyL (i := 19) rfl (by kernel_rfl) (fun K hK => ?_)
          go_simp
          refine (HKY.out v0).mono ?_
          rintro e w5 ⟨rfl, hk5⟩
          have HK5 := Lib.hid (HKD.out.trans hk5)
          refine (fun hHeld => hK _ _ hHeld ?_) (⟨hk5.cell hHeld.1 (fun h => h), (fun t v hv => hk5.cell (hHeld.2 t v hv) (fun h => h))⟩)
          clear hK
          try simp only [Act.put, List.setIfInBounds_toArray, List.set_cons_zero, List.set_cons_succ]
          refine takeL (i := 20) (v := _) rfl (by kernel_rfl) (by kernel_rfl) (by kernel_rfl) (fun _ _ _ h => h) (yieldsIf_bin (by rfl) _ _ _ _ _ rfl _ _ rfl rfl _ hQ (hg V V _ _)) (by assumption) ?_
          try simp only [Act.put, List.setIfInBounds_toArray, List.set_cons_zero, List.set_cons_succ]
          refine takeL (i := 21) (v := _) rfl (by kernel_rfl) (by kernel_rfl) (by kernel_rfl) (fun _ _ _ h => h) (Or.inl ⟨by rfl, by intro w hSw; (try dsimp only at hSw); go_simp; try with_reducible rfl⟩) (by assumption) ?_
          try simp only [Act.put, List.setIfInBounds_toArray, List.set_cons_zero, List.set_cons_succ]
          refine wpAnyH_done (by kernel_rfl) ?_ _
          clear hHeld hk5
          have hlz : (byteV zeroKey).length = 32 := rfl
          have HB5 := Lib.hid (HZZ.out.2.2.keep0 HK5.out)
          have HBL : Hid (i * 65 + 32 + (byteV zeroKey).length ≤ cs.length) := Lib.hid (by rw [hlz]; have := HZZ.out.1; omega)
          have HIZ : Hid ((Try.prog.info? 37).map (·.size) = some (byteV zeroKey).length) := Lib.hid (by rw [hlz]; exact Try.infoKey)
          clear hlz
          go_wp2_with (first
            | (refine wpl_build rfl 37 _ rfl (byteV zeroKey) _ Try.builtZero (by first | rfl | simp [Act.eval]) ?_)
            | (refine wpl_store_at rfl 37 _ _ rfl ga (i * 65 + 32) rfl (byteV zeroKey) rfl HB5.out HBL.out HIZ.out oneCell_byteV ?_))
          intro w6 hb6 hk6 _
          have HZ6 := Lib.hid (Zapped.next (w := w5) HZZ.out.1 (fun t h1 h2 u v hv => HK5.out.cell (HZZ.out.2.1 t h1 h2 u v hv) (fun h => h)) HB5.out rfl hi40 hb6 (by omega))
          have HT6 := Lib.hid (And.intro ((hT.out.1.keep0 HK5.out).keep hk6 (fun k h1 h2 => HAG.out.1 k h1 h2)) (And.intro ((hT.out.2.1.trans HK5.out).step hk6 (fun k hk => .inr (by rw [show k = ga from hk]; exact HAG.out.2))) hT.out.2.2))
          clear hb6 hk6
          go_wp2_with fail
          exact ⟨⟨i + 1, by go_num, by omega, HZ6, HT6⟩, by first | (simp [intOf]; done) | (simp [intOf]; omega)⟩
        · obtain rfl : i = 40 := by omega
          have HKZ := Lib.hid (fun w => show Calls Try.prog 18 #[.int .i64 (n : Int)] w (fun e w' => e = .returned (.agg (byteV (keyOf (n : Int))).toArray) ∧ Keeps Nil w w') from key_walk (n : Int) w (by omega) (by omega))
          have hkl := keyOf_len (n : Int)
          have hkb := keyOf_bytes (n : Int)
          have hfm := findM n
          have hgm : hasE (listM (40 + n)) (key1 7) (((q : Int) - 1) % 4294967296) = false := goneM (by omega)
          have HFM := Lib.hid (And.intro hfm (And.intro hgm (takeM n)))
          obtain ⟨E, hE⟩ : ∃ E, E = keyOf (n : Int) := ⟨_, rfl⟩
          rw [← hE] at HKZ HFM hkl hkb
          have HE := Lib.hid (And.intro hkl hkb)
          have HEI : Hid ((Try.prog.info? 37).map (·.size) = some (byteV E).length) := Lib.hid (by rw [keyV_len hkl]; exact Try.infoKey)
          have hFP := find_walk hT.out.1 (key1 7) (n : Int) (key1_len 7) (key1_bytes 7 (by omega) (by omega))
          have HFP := Lib.hid (show Calls Try.prog 20 #[.pointer (some ⟨gs, 0, none⟩), .agg (byteV (key1 7)).toArray, .int .u32 (n : Int)] wr (fun e w' => e = .returned (.tuple #[.agg (byteV E).toArray, .bool true]) ∧ Keeps Nil wr w') from hFP.mono (fun e w' ⟨h1, h2⟩ => ⟨by rw [h1, HFM.out.1.1, HFM.out.1.2], h2⟩))
          have hwrap : IntKind.u32.wrap (n : Int) = (n : Int) := IntWalk.u32_in _ (by omega)
          clear hkl hkb hfm hgm hE hFP hZ
          go_wp2_with (refine wpl_buildC rfl 37 0 _ rfl _ (Try.builtKey1 _) ?_)
          refine HFP.out.mono ?_
          rintro e w4 ⟨rfl, hk4⟩
          have hkz4 := (Keeps.refl Nil w4).alloc (.cells zk.toArray 37)
          have HK4 := Lib.hid (And.intro hk4 hkz4)
          clear hk4 hkz4
          go_wp2_with (refine wpl_store rfl 37 _ _ rfl w4.heap.size rfl (byteV E) rfl (Blk.new w4 zk _) (by rw [HZL.out]; exact keyV_len HE.out.1) HEI.out oneCell_byteV ?_)
          intro w5 hb5 hk5 _
          have hk45 : Keeps Nil w4 w5 := HK4.out.2.step hk5 (fun k hk => .inr (by rw [show k = w4.heap.size from hk]; exact Nat.le_refl _))
          have hkc := HK4.out.1.trans hk45
          have HT5 := Lib.hid (And.intro (hT.out.1.keep0 hkc) (And.intro (hT.out.2.1.trans hkc) hT.out.2.2))
          obtain ⟨g10, hg10⟩ : ∃ g10, w4.heap.size = g10 := ⟨_, rfl⟩
          rw [hg10] at hb5 ⊢
          have HB10 := Lib.hid hb5
          clear hk45 hkc hb5 hk5 HK4 hg10 hT HFP
          go_wp2_with (refine wpl_buildC rfl 37 0 _ rfl _ (Try.builtKey1 _) ?_)
          refine (HNQ.out _).mono ?_
          rintro e w6 ⟨rfl, rfl⟩
          obtain ⟨V, hV⟩ : ∃ V, V = ((q : Int) - 1) % 4294967296 := ⟨_, rfl⟩
          rw [← hV] at HFM
          have HVV := Lib.hid hV.symm
          have hgq : Calls Try.prog 20 #[.pointer (some ⟨gs, 0, none⟩), .agg (byteV (key1 7)).toArray, .int .u32 V] w5 (fun e w' => ∃ F : List Int, e = .returned (.tuple #[.agg (byteV F).toArray, .bool false]) ∧ F.length = 32 ∧ Keeps Nil w5 w') :=
            (find_walk HT5.out.1 (key1 7) V (key1_len 7) (key1_bytes 7 (by omega) (by omega))).mono (fun e w' ⟨h1, h2⟩ => ⟨findKey (listM (40 + n)) (key1 7) V, by rw [h1, HFM.out.2.1], (findKey_ok HLW.out _ _).1, h2⟩)
          have HGQ := Lib.hid hgq
          have hwq : IntKind.u32.wrap (q : Int) = (q : Int) := IntWalk.u32_in _ (by omega)
          clear hgq hV
          go_wp2_with fail
          rw [HVV.out]
          refine HGQ.out.mono ?_
          rintro e w7 ⟨F, rfl, hF, hk7⟩
          have HF := Lib.hid (keyV_len hF)
          have hkz7 := (Keeps.refl Nil w7).alloc (.cells zk.toArray 37)
          have HK7 := Lib.hid (And.intro hk7 hkz7)
          have HFI' : Hid ((Try.prog.info? 37).map (·.size) = some (byteV F).length) := Lib.hid (by rw [keyV_len hF]; exact Try.infoKey)
          clear hk7 hkz7 hF HGQ
          go_wp2_with (refine wpl_store rfl 37 _ _ rfl w7.heap.size rfl (byteV F) rfl (Blk.new w7 zk _) (by rw [HZL.out]; exact HF.out) HFI'.out oneCell_byteV ?_)
          intro w8 hb8 hk8 hs8
          clear hs8
          have hk78 : Keeps Nil w7 w8 := HK7.out.2.step hk8 (fun k hk => .inr (by rw [show k = w7.heap.size from hk]; exact Nat.le_refl _))
          have hkc := HK7.out.1.trans hk78
          have HT8 := Lib.hid (And.intro (HT5.out.1.keep0 hkc) (And.intro (HT5.out.2.1.trans hkc) HT5.out.2.2))
          have HB8 := Lib.hid (HB10.out.keep0 hkc)
          clear hk78 hkc hb8 hk8 HK7 HT5 HB10 HF HFI'
          obtain ⟨wB, gt, hgt, hbt, hwB, hkB⟩ := alloc1 w8 [.slice none 0 0] 34
          have HWB : Hid (w8.alloc (.cells #[.slice none 0 0] 34) = wB) := Lib.hid hwB.symm
          have HGT := Lib.hid hgt.symm
          have hst : ¬ stOf gs a gt := fun e => by have := HT8.out.1.lt gt e; omega
          have hgtg : g10 ≠ gt := fun e => by have := HB8.out.lt; omega
          have hgtw : w.heap.size ≤ gt := by rw [hgt]; exact HT8.out.2.1.size
          have HTB := Lib.hid (And.intro (HT8.out.1.keep0 hkB) (And.intro (HT8.out.2.1.trans hkB) HT8.out.2.2))
          have HTT : Hid (IsSt 34 42 wB gt none 0 []) := Lib.hid ⟨hbt, Own.nil _ _ _, blkOf_none _, fun e he => by cases he⟩
          have HBB := Lib.hid (HB8.out.keep0 hkB)
          have HGN := Lib.hid (And.intro hst (And.intro hgtg hgtw))
          clear hgt hbt hwB hkB hst hgtg hgtw HT8 HB8
          go_upto_region 22 with fail
          rw [HWB.out, HGT.out]
          go_wp2_with (first
            | (refine wpl_buildC rfl 37 0 _ rfl _ (Try.builtKey1 _) ?_)
            | (refine wpl_build rfl 37 _ rfl (byteV zeroKey) _ Try.builtZero (by first | rfl | simp [Act.eval]) ?_))
          refine (put_walk HTT.out (by simp) (key1 9) zeroKey 1 ⟨key1_len 9, zeroKey_len, key1_bytes 9 (by omega) (by omega), zeroKey_bytes, by decide, by decide⟩).mono ?_
          rintro e w9 ⟨a9, c9, rfl, hS9, hk9, hf9⟩
          have hnone : ∀ k, stOf gt none k → k = gt := fun k hk => hk.elim id (fun e => (blkOf_none _ e).elim)
          have hT9 := HTB.out.1.keep hk9 (fun k h1 h2 => HGN.out.1 (by rw [← hnone k h2]; exact h1))
          have hK9 := HTB.out.2.1.step hk9 (fun k hk => .inr (by rw [hnone k hk]; exact HGN.out.2.2))
          have hB9 := HBB.out.keep hk9 (fun e => HGN.out.2.1 (hnone _ e))
          have hf9' : ∀ k, stOf gt a9 k → w.heap.size ≤ k ∧ ¬ stOf gs a k ∧ k ≠ g10 := fun k hk => by
            rcases hf9 k hk with h' | h'
            · rw [hnone k h']; exact ⟨HGN.out.2.2, HGN.out.1, fun e => HGN.out.2.1 e.symm⟩
            · have := HTB.out.2.1.size
              exact ⟨by omega, fun e => by have := HTB.out.1.lt k e; omega, fun e => by have := HBB.out.lt; omega⟩
          have H9 := Lib.hid (And.intro hS9 (And.intro (And.intro hT9 (And.intro hK9 HTB.out.2.2)) (And.intro hB9 hf9')))
          clear hS9 hk9 hf9 hT9 hK9 hB9 hf9' hnone HTB HTT HBB
          generalize putE [] (key1 9) 1 zeroKey = T0 at *
          go_wp2_with fail
          refine (allM_walk H9.out.2.1.1 HLL.out).mono ?_
          rintro e w10 ⟨gl, cl, rfl, hol, hkl, hfl, _, _⟩
          have hne : ¬ blkOf (some ⟨gl, 0, none⟩) gt := fun e => by
            rw [blkOf_some] at e
            have := H9.out.1.obj.lt
            omega
          have hol' : Own w10 42 65 (some ⟨gl, 0, none⟩) cl (listM (40 + n)).length (entsV (listM (40 + n))) := by rw [HLL.out]; exact hol
          have hld := load_walk (H9.out.1.keep0 hkl) hol' HLW.out hne (by rw [HLL.out]; omega)
          rw [loadE_id HLA.out (by rw [HLL.out]; omega), HLL.out] at hld
          have HLD := Lib.hid hld
          have H10 := Lib.hid (And.intro (And.intro (H9.out.2.1.2.1.trans hkl) (H9.out.2.2.1.keep0 hkl)) H9.out.2.2.2)
          clear hol hkl hfl hne hol' hld H9
          go_wp2_with fail
          refine HLD.out.mono ?_
          rintro e w11 ⟨a11, c11, rfl, hS11, hk11, hf11⟩
          have HG11 := Lib.hid (And.intro hS11 (And.intro (H10.out.1.1.step hk11 (fun k hk => .inr (H10.out.2 k hk).1)) (And.intro (H10.out.1.2.keep hk11 (fun e => (H10.out.2 g10 e).2.2 rfl)) (fun k (hk : stOf gt a11 k) => (hf11 k hk).elim (fun e => And.intro (H10.out.2 k e).1 (H10.out.2 k e).2.2) (fun e => And.intro (Nat.le_trans H10.out.1.1.size e) (fun e2 => by have := H10.out.1.2.lt; omega))))))
          clear hS11 hk11 hf11 HLD H10
          go_wp2_with fail
          refine (allM_walk HG11.out.1 HLL.out).mono ?_
          rintro e w12 ⟨gu, cu, rfl, hou, hku, hfu, hcu, hcu2⟩
          have hru := own_ent (i := 0) (e := entM n) (l := listM (40 + n)) (by rw [HLL.out]; exact hou) HLW.out (by rw [listM_cons]; rfl)
          obtain ⟨bu, hbu, _, hru⟩ := hru
          cases hbu
          rw [Nat.zero_mul] at hru
          have hcu0 := entV_num (entM_wf (show n < 4294967296 by omega)) hru
          rw [Nat.zero_add] at hcu0
          have hcu1 : w12.cell? ⟨gu, 64, none⟩ = some (.int .u32 (n : Int)) := hcu0
          have HG12 := Lib.hid (And.intro (HG11.out.1.keep0 hku) (And.intro (HG11.out.2.1.trans hku) (And.intro (HG11.out.2.2.1.keep0 hku) HG11.out.2.2.2)))
          have hgu : ∀ k, stOf gt a11 k → k ≠ gu := fun k hk => by have := HG11.out.1.lt k hk; omega
          have HGU := Lib.hid hgu
          clear hou hku hfu hru hcu0 hgu HG11
          go_upto_region 25 with fail
          refine wp_region_held_drew (S := fun w' => w'.cell? ⟨gu, 64, none⟩ = some (.int .u32 (n : Int)) ∧ w'.rangeAt g10 0 (byteV E)) (by kernel_rfl) ⟨hcu1, HG12.out.2.2.1.range0⟩ (fun hHeld => ?_)
          have hkd : Keeps Nil w12 w12.drew := (Keeps.refl Nil w12).drew
          have HG := Lib.hid (And.intro (HG12.out.1.keep0 hkd) (And.intro (HG12.out.2.1.trans hkd) (And.intro (HG12.out.2.2.1.keep0 hkd) HG12.out.2.2.2)))
          have hg := fun (U V : List Value) (x y : Operand) (w : World) => Try.guardK .eql x y U.toArray V.toArray w
          have hQ : ∀ w, (binOp .eql 37 (.agg (byteV E).toArray) (.agg (byteV E).toArray)).run Try.prog w = .ok (.bool true) w := fun w => by
            have := Try.eqlK HE.out.1 HE.out.1 HE.out.2 HE.out.2 w
            simpa using this
          have hIK := HEI.out
          have hUK := Try.undKey
          have hb7 := Try.builtKey1 7
          clear hkd hcu1 HG12
          generalize w12.drew = v0 at *
          refine takeL (i := 0) (v := _) rfl (by kernel_rfl) (by kernel_rfl) (by kernel_rfl) (fun _ _ _ h => h) (Or.inl ⟨by rfl, by intro w hSw; (try dsimp only at hSw); go_simp; try with_reducible rfl⟩) (by assumption) ?_
          try simp only [Act.put, List.setIfInBounds_toArray, List.set_cons_zero, List.set_cons_succ]
          refine takeL (i := 1) (v := _) rfl (by kernel_rfl) (by kernel_rfl) (by kernel_rfl) (fun _ _ _ h => h) (Or.inl ⟨by rfl, by intro w hSw; (try dsimp only at hSw); go_simp; try with_reducible rfl⟩) (by assumption) ?_
          try simp only [Act.put, List.setIfInBounds_toArray, List.set_cons_zero, List.set_cons_succ]
          refine takeL (i := 2) (v := _) rfl (by kernel_rfl) (by kernel_rfl) (by kernel_rfl) (fun _ _ _ h => h) (Or.inl ⟨by rfl, by intro w hSw; (try dsimp only at hSw); go_simp; try with_reducible rfl⟩) (by assumption) ?_
          try simp only [Act.put, List.setIfInBounds_toArray, List.set_cons_zero, List.set_cons_succ]
          refine takeL (i := 3) (v := _) rfl (by kernel_rfl) (by kernel_rfl) (by kernel_rfl) (fun _ _ _ h => h) (Or.inl ⟨by rfl, by intro w hSw; (try dsimp only at hSw); go_simp; try with_reducible rfl⟩) (by assumption) ?_
          try simp only [Act.put, List.setIfInBounds_toArray, List.set_cons_zero, List.set_cons_succ]
          refine takeL (i := 4) (v := _) rfl (by kernel_rfl) (by kernel_rfl) (by kernel_rfl) (fun _ _ _ h => h) (Or.inl ⟨by rfl, by intro w hSw; (try dsimp only at hSw); go_simp; try with_reducible rfl⟩) (by assumption) ?_
          try simp only [Act.put, List.setIfInBounds_toArray, List.set_cons_zero, List.set_cons_succ]
          refine takeL (i := 5) (v := _) rfl (by kernel_rfl) (by kernel_rfl) (by kernel_rfl) (fun _ _ _ h => h) (yieldsIf_load_mid (by rfl) 37 _ rfl g10 0 rfl (byteV E) _ (fun w hSw => hSw.2) hUK rfl hIK) (by assumption) ?_
          try simp only [Act.put, List.setIfInBounds_toArray, List.set_cons_zero, List.set_cons_succ]
          refine takeL (i := 6) (v := _) rfl (by kernel_rfl) (by kernel_rfl) (by kernel_rfl) (fun _ _ _ h => h) (Or.inl ⟨by rfl, by intro w hSw; (try dsimp only at hSw); go_simp; try with_reducible rfl⟩) (by assumption) ?_
          try simp only [Act.put, List.setIfInBounds_toArray, List.set_cons_zero, List.set_cons_succ]
          refine onlyL (i := 7) rfl (by kernel_rfl) (fun K hK => ?_)
          go_simp
          refine (HKZ.out v0).mono ?_
          rintro e w13 ⟨rfl, hk13⟩
          have HG13 := Lib.hid (And.intro (HG.out.1.keep0 hk13) (And.intro (HG.out.2.1.trans hk13) (And.intro (HG.out.2.2.1.keep0 hk13) HG.out.2.2.2)))
          refine (fun hHeld => hK _ _ hHeld ?_) (⟨hk13.cell hHeld.1 (fun h => h), HG13.out.2.2.1.range0⟩)
          clear hK
          try simp only [Act.put, List.setIfInBounds_toArray, List.set_cons_zero, List.set_cons_succ]
          refine takeL (i := 8) (v := _) rfl (by kernel_rfl) (by kernel_rfl) (by kernel_rfl) (fun _ _ _ h => h) (yieldsIf_bin (by rfl) _ _ _ _ _ rfl _ _ rfl rfl _ hQ (hg (byteV E) (byteV E) _ _)) (by assumption) ?_
          try simp only [Act.put, List.setIfInBounds_toArray, List.set_cons_zero, List.set_cons_succ]
          refine takeL (i := 9) (v := _) rfl (by kernel_rfl) (by kernel_rfl) (by kernel_rfl) (fun _ _ _ h => h) (Or.inl ⟨by rfl, by intro w hSw; (try dsimp only at hSw); go_simp; try with_reducible rfl⟩) (by assumption) ?_
          try simp only [Act.put, List.setIfInBounds_toArray, List.set_cons_zero, List.set_cons_succ]
          refine takeL (i := 10) (v := _) rfl (by kernel_rfl) (by kernel_rfl) (by kernel_rfl) (fun _ _ _ h => h) (Or.inl ⟨by rfl, by intro w hSw; (try dsimp only at hSw); go_simp; try with_reducible rfl⟩) (by assumption) ?_
          try simp only [Act.put, List.setIfInBounds_toArray, List.set_cons_zero, List.set_cons_succ]
          refine takeL (i := 11) (v := _) rfl (by kernel_rfl) (by kernel_rfl) (by kernel_rfl) (fun _ _ _ h => h) (Or.inl ⟨by rfl, by intro w hSw; (try dsimp only at hSw); go_simp; try with_reducible rfl⟩) (by assumption) ?_
          try simp only [Act.put, List.setIfInBounds_toArray, List.set_cons_zero, List.set_cons_succ]
          refine takeL (i := 12) (v := _) rfl (by kernel_rfl) (by kernel_rfl) (by kernel_rfl) (fun _ _ _ h => h) (Or.inl ⟨by rfl, by intro w hSw; (try dsimp only at hSw); go_simp; try with_reducible rfl⟩) (by assumption) ?_
          try simp only [Act.put, List.setIfInBounds_toArray, List.set_cons_zero, List.set_cons_succ]
          refine takeL (i := 13) (v := _) rfl (by kernel_rfl) (by kernel_rfl) (by kernel_rfl) (fun _ _ _ h => h) (Or.inl ⟨by rfl, by intro w hSw; (try dsimp only at hSw); go_simp; try with_reducible rfl⟩) (by assumption) ?_
          try simp only [Act.put, List.setIfInBounds_toArray, List.set_cons_zero, List.set_cons_succ]
          refine takeL (i := 14) (v := _) rfl (by kernel_rfl) (by kernel_rfl) (by kernel_rfl) (fun _ _ _ h => h) (Or.inl ⟨by rfl, by intro w hSw; (try dsimp only at hSw); go_simp; try with_reducible rfl⟩) (by assumption) ?_
          try simp only [Act.put, List.setIfInBounds_toArray, List.set_cons_zero, List.set_cons_succ]
          refine takeL (i := 15) (v := _) rfl (by kernel_rfl) (by kernel_rfl) (by kernel_rfl) (fun _ _ _ h => h) (Or.inl ⟨by rfl, by intro w hSw; (try dsimp only at hSw); go_simp; try with_reducible rfl⟩) (by assumption) ?_
          try simp only [Act.put, List.setIfInBounds_toArray, List.set_cons_zero, List.set_cons_succ]
          refine takeL (i := 16) (v := _) rfl (by kernel_rfl) (by kernel_rfl) (by kernel_rfl) (fun _ _ _ h => h) (Or.inl ⟨by rfl, by intro w hSw; (try dsimp only at hSw); go_simp; try with_reducible rfl⟩) (by assumption) ?_
          try simp only [Act.put, List.setIfInBounds_toArray, List.set_cons_zero, List.set_cons_succ]
          refine takeL (i := 17) (v := _) rfl (by kernel_rfl) (by kernel_rfl) (by kernel_rfl) (fun _ _ _ h => h) (Or.inl ⟨by rfl, by intro w hSw; (try dsimp only at hSw); go_simp; try with_reducible rfl⟩) (by assumption) ?_
          try simp only [Act.put, List.setIfInBounds_toArray, List.set_cons_zero, List.set_cons_succ]
          refine takeL (i := 18) (v := _) rfl (by kernel_rfl) (by kernel_rfl) (by kernel_rfl) (fun _ _ _ h => h) (Or.inl ⟨by rfl, by intro w hSw; (try dsimp only at hSw); go_simp; try with_reducible rfl⟩) (by assumption) ?_
          try simp only [Act.put, List.setIfInBounds_toArray, List.set_cons_zero, List.set_cons_succ]
          refine takeL (i := 19) (v := _) rfl (by kernel_rfl) (by kernel_rfl) (by kernel_rfl) (fun _ _ _ h => h) (Or.inl ⟨by rfl, by intro w hSw; (try dsimp only at hSw); go_simp; try with_reducible rfl⟩) (by assumption) ?_
          try simp only [Act.put, List.setIfInBounds_toArray, List.set_cons_zero, List.set_cons_succ]
          refine takeL (i := 20) (v := _) rfl (by kernel_rfl) (by kernel_rfl) (by kernel_rfl) (fun _ _ _ h => h) (Or.inl ⟨by rfl, by intro w hSw; (try dsimp only at hSw); go_simp; try with_reducible rfl⟩) (by assumption) ?_
          try simp only [Act.put, List.setIfInBounds_toArray, List.set_cons_zero, List.set_cons_succ]
          refine takeL (i := 21) (v := _) rfl (by kernel_rfl) (by kernel_rfl) (by kernel_rfl) (fun _ _ _ h => h) (Or.inl ⟨by rfl, by intro w hSw; (try dsimp only at hSw); go_simp; try with_reducible rfl⟩) (by assumption) ?_
          try simp only [Act.put, List.setIfInBounds_toArray, List.set_cons_zero, List.set_cons_succ]
          refine takeL (i := 22) (v := _) rfl (by kernel_rfl) (by kernel_rfl) (by kernel_rfl) (fun _ _ _ h => h) (Or.inl ⟨by rfl, by intro w hSw; (try dsimp only at hSw); go_simp; try with_reducible rfl⟩) (by assumption) ?_
          try simp only [Act.put, List.setIfInBounds_toArray, List.set_cons_zero, List.set_cons_succ]
          refine takeL (i := 23) (v := _) rfl (by kernel_rfl) (by kernel_rfl) (by kernel_rfl) (fun _ _ _ h => h) (Or.inl ⟨by rfl, by intro w hSw; (try dsimp only at hSw); go_simp; try with_reducible rfl⟩) (by assumption) ?_
          try simp only [Act.put, List.setIfInBounds_toArray, List.set_cons_zero, List.set_cons_succ]
          refine takeL (i := 24) (v := _) rfl (by kernel_rfl) (by kernel_rfl) (by kernel_rfl) (fun _ _ _ h => h) (Or.inl ⟨by rfl, by intro w hSw; (try dsimp only at hSw); go_simp; try with_reducible rfl⟩) (by assumption) ?_
          try simp only [Act.put, List.setIfInBounds_toArray, List.set_cons_zero, List.set_cons_succ]
          refine takeL (i := 25) (v := _) rfl (by kernel_rfl) (by kernel_rfl) (by kernel_rfl) (fun _ _ _ h => h) (Or.inl ⟨by rfl, by intro w hSw; (try dsimp only at hSw); go_simp; try with_reducible rfl⟩) (by assumption) ?_
          try simp only [Act.put, List.setIfInBounds_toArray, List.set_cons_zero, List.set_cons_succ]
          refine takeL (i := 26) (v := _) rfl (by kernel_rfl) (by kernel_rfl) (by kernel_rfl) (fun _ _ _ h => h) (Or.inl ⟨by rfl, by intro w hSw; (try dsimp only at hSw); go_simp; try with_reducible rfl⟩) (by assumption) ?_
          try simp only [Act.put, List.setIfInBounds_toArray, List.set_cons_zero, List.set_cons_succ]
          refine takeL (i := 27) (v := _) rfl (by kernel_rfl) (by kernel_rfl) (by kernel_rfl) (fun _ _ _ h => h) (Or.inl ⟨by rfl, by intro w hSw; (try dsimp only at hSw); go_simp; try with_reducible rfl⟩) (by assumption) ?_
          try simp only [Act.put, List.setIfInBounds_toArray, List.set_cons_zero, List.set_cons_succ]
          refine takeL (i := 28) (v := _) rfl (by kernel_rfl) (by kernel_rfl) (by kernel_rfl) (fun _ _ _ h => h) (Or.inl ⟨by rfl, by intro w hSw; (try dsimp only at hSw); go_simp; try with_reducible rfl⟩) (by assumption) ?_
          try simp only [Act.put, List.setIfInBounds_toArray, List.set_cons_zero, List.set_cons_succ]
          refine takeL (i := 29) (v := .agg (byteV (key1 7)).toArray) rfl (by kernel_rfl) (by kernel_rfl) (by kernel_rfl) (fun _ _ _ h => h) (yieldsIf_build (by rfl) 37 _ rfl (byteV (key1 7)) _ hb7 (by simp [Act.eval])) (by assumption) ?_
          try simp only [Act.put, List.setIfInBounds_toArray, List.set_cons_zero, List.set_cons_succ]
          refine takeL (i := 30) (v := _) rfl (by kernel_rfl) (by kernel_rfl) (by kernel_rfl) (fun _ _ _ h => h) (Or.inl ⟨by rfl, by intro w hSw; (try dsimp only at hSw); go_simp; try with_reducible rfl⟩) (by assumption) ?_
          try simp only [Act.put, List.setIfInBounds_toArray, List.set_cons_zero, List.set_cons_succ]
          refine takeL (i := 31) (v := _) rfl (by kernel_rfl) (by kernel_rfl) (by kernel_rfl) (fun _ _ _ h => h) (Or.inl ⟨by rfl, by intro w hSw; (try dsimp only at hSw); go_simp; try with_reducible rfl⟩) (by assumption) ?_
          try simp only [Act.put, List.setIfInBounds_toArray, List.set_cons_zero, List.set_cons_succ]
          refine onlyL (i := 32) rfl (by kernel_rfl) (fun K hK => ?_)
          go_simp
          refine (take_walk HG13.out.1 (key1 7) (n : Int) (key1_len 7) (key1_bytes 7 (by omega) (by omega))).mono ?_
          unfold TakePost
          rw [HFM.out.1.2]
          rintro e w14 ⟨rfl, hS14, hk14⟩
          have HG14 := Lib.hid (And.intro hS14 (And.intro (HG13.out.2.1.step hk14 (fun k hk => .inr (HG13.out.2.2.2 k hk).1)) (HG13.out.2.2.1.keep hk14 (fun e => (HG13.out.2.2.2 g10 e).2 rfl))))
          refine (fun hHeld => hK _ _ hHeld ?_) (⟨hk14.cell hHeld.1 (fun e => HGU.out gu e rfl), HG14.out.2.2.range0⟩)
          clear hK
          try simp only [Act.put, List.setIfInBounds_toArray, List.set_cons_zero, List.set_cons_succ]
          refine takeL (i := 33) (v := _) rfl (by kernel_rfl) (by kernel_rfl) (by kernel_rfl) (fun _ _ _ h => h) (Or.inl ⟨by rfl, by intro w hSw; (try dsimp only at hSw); go_simp; try with_reducible rfl⟩) (by assumption) ?_
          try simp only [Act.put, List.setIfInBounds_toArray, List.set_cons_zero, List.set_cons_succ]
          refine takeL (i := 34) (v := _) rfl (by kernel_rfl) (by kernel_rfl) (by kernel_rfl) (fun _ _ _ h => h) (Or.inl ⟨by rfl, by intro w hSw; (try dsimp only at hSw); go_simp; try with_reducible rfl⟩) (by assumption) ?_
          try simp only [Act.put, List.setIfInBounds_toArray, List.set_cons_zero, List.set_cons_succ]
          refine takeL (i := 35) (v := .agg (byteV (key1 7)).toArray) rfl (by kernel_rfl) (by kernel_rfl) (by kernel_rfl) (fun _ _ _ h => h) (yieldsIf_build (by rfl) 37 _ rfl (byteV (key1 7)) _ hb7 (by simp [Act.eval])) (by assumption) ?_
          try simp only [Act.put, List.setIfInBounds_toArray, List.set_cons_zero, List.set_cons_succ]
          refine takeL (i := 36) (v := _) rfl (by kernel_rfl) (by kernel_rfl) (by kernel_rfl) (fun _ _ _ h => h) (Or.inl ⟨by rfl, by intro w hSw; (try dsimp only at hSw); go_simp; try with_reducible rfl⟩) (by assumption) ?_
          try simp only [Act.put, List.setIfInBounds_toArray, List.set_cons_zero, List.set_cons_succ]
          refine takeL (i := 37) (v := _) rfl (by kernel_rfl) (by kernel_rfl) (by kernel_rfl) (fun _ _ _ h => h) (Or.inl ⟨by rfl, by intro w hSw; (try dsimp only at hSw); go_simp; try with_reducible rfl⟩) (by assumption) ?_
          try simp only [Act.put, List.setIfInBounds_toArray, List.set_cons_zero, List.set_cons_succ]
          refine onlyL (i := 38) rfl (by kernel_rfl) (fun K hK => ?_)
          go_simp
          refine (take_walk HG14.out.1 (key1 7) (n : Int) (key1_len 7) (key1_bytes 7 (by omega) (by omega))).mono ?_
          unfold TakePost
          rw [HFM.out.2.2]
          rintro e w15 ⟨rfl, hS15, hk15⟩
          have HG15 := Lib.hid (And.intro (HG14.out.2.1.step hk15 (fun k hk => .inr (HG13.out.2.2.2 k hk).1)) (HG14.out.2.2.keep hk15 (fun e => (HG13.out.2.2.2 g10 e).2 rfl)))
          refine (fun hHeld => hK _ _ hHeld ?_) (⟨hk15.cell hHeld.1 (fun e => HGU.out gu e rfl), HG15.out.2.range0⟩)
          clear hK
          try simp only [Act.put, List.setIfInBounds_toArray, List.set_cons_zero, List.set_cons_succ]
          refine takeL (i := 39) (v := _) rfl (by kernel_rfl) (by kernel_rfl) (by kernel_rfl) (fun _ _ _ h => h) (Or.inl ⟨by rfl, by intro w hSw; (try dsimp only at hSw); go_simp; try with_reducible rfl⟩) (by assumption) ?_
          try simp only [Act.put, List.setIfInBounds_toArray, List.set_cons_zero, List.set_cons_succ]
          refine takeL (i := 40) (v := _) rfl (by kernel_rfl) (by kernel_rfl) (by kernel_rfl) (fun _ _ _ h => h) (Or.inl ⟨by rfl, by intro w hSw; (try dsimp only at hSw); go_simp; try with_reducible rfl⟩) (by assumption) ?_
          try simp only [Act.put, List.setIfInBounds_toArray, List.set_cons_zero, List.set_cons_succ]
          refine takeL (i := 41) (v := _) rfl (by kernel_rfl) (by kernel_rfl) (by kernel_rfl) (fun _ _ _ h => h) (Or.inl ⟨by rfl, by intro w hSw; (try dsimp only at hSw); go_simp; try with_reducible rfl⟩) (by assumption) ?_
          try simp only [Act.put, List.setIfInBounds_toArray, List.set_cons_zero, List.set_cons_succ]
          refine wpAnyH_done (by kernel_rfl) ?_ _
          clear hHeld hk13 hS14 hk14 hS15 hk15
          go_wp2_with fail
          go_ret
          exact ⟨rfl, HG15.out.1⟩
end Go.Proofs.Ytokminiendnhoaa
