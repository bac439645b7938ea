/-
  Path and its errors; the document's Check; lists of digests that are the same; chapter 18's first examples.
-/
import Derived.Test.YtmbdldnldcgdjaaDoorProofRefUp
import Derived.Test.YtmbdldnldcgdjaaDoorNumber
namespace Go.Proofs.YtmbdldnldcgdjaaDoor
set_option linter.unusedSimpArgs false
set_option linter.unusedVariables false
open Go.RowKit

def PathT (w : World) (L : List (List Int)) (e : Ending) (w' : World) : Prop :=
  ∃ (a : Option Addr) (cap : Nat), e = .returned (.tuple #[.slice a L.length cap, .nilIface]) ∧ OwnH w' a cap L ∧ Keeps Nil w w' ∧ (∀ k, blkOf a k → w.heap.size ≤ k)
set_option maxHeartbeats 800000 in
theorem pathOk_walk {n i : Nat} {w : World} {a : Option Addr} {cap : Nat} {l : List (List Int)} (hl : l.length = n) (h : Hs w a l) (hc : n ≤ cap) (hc9 : cap ≤ 9223372036854775807) (hi : i < n) (hn : n ≤ 1000000) :
    Calls Tryd.prog 10 #[.int .i64 i, .slice a n cap] w (PathT w (pathL i l)) := by
  have HP := Lib.hid (path_walk n i hl h hc hc9 (by omega))
  have h0 : (0 : Int) ≤ i := by omega
  have h1 : (i : Int) < n := by omega
  clear hl h
  go_enter Tryd.func10, Tryd.ntmps10
  go_wp2_with fail
  refine HP.out.mono ?_
  rintro e w1 ⟨a1, c1, rfl, ho, hk, hf⟩
  have HO := Lib.hid (And.intro ho (And.intro hk hf))
  clear ho hk hf HP
  go_wp2_with fail
  go_ret2
  exact ⟨a1, c1, rfl, HO.out.1, HO.out.2.1, HO.out.2.2⟩
set_option maxHeartbeats 800000 in
theorem pathBad_walk {n : Nat} {i : Int} {w : World} {p : Nat → Addr} (hE : Errs w p) {a : Option Addr} {cap : Nat} (hi : i < 0 ∨ (n : Int) ≤ i) :
    Calls Tryd.prog 10 #[.int .i64 i, .slice a n cap] w fun e w' => e = .returned (.tuple #[.slice none 0 0, errV p 1]) ∧ Keeps Nil w w' := by
  have g1 : w.cell? ⟨0, 0, none⟩ = some (errV p 1) := hE.at_ 1 (by decide)
  clear hE
  generalize errV p 1 = V at *
  rcases Classical.em (i < 0) with h1 | h1
  · have d1 : decide (i < 0) = true := by simpa using h1
    clear hi
    go_enter Tryd.func10, Tryd.ntmps10
    go_wp2_with fail
    go_quiet (fail)
    go_wp2_with fail
    go_ret2
    exact ⟨rfl, (Keeps.refl _ _).drewN _⟩
  · have d1 : decide (i < 0) = false := by simpa using h1
    have h2 : (n : Int) ≤ i := by omega
    have d2 : decide ((n : Int) ≤ i) = true := by simpa using h2
    clear hi
    go_enter Tryd.func10, Tryd.ntmps10
    go_wp2_with fail
    go_quiet (fail)
    go_wp2_with fail
    go_ret2
    exact ⟨rfl, (Keeps.refl _ _).drewN _⟩
set_option maxHeartbeats 800000 in
theorem refPathBad_walk {n : Nat} {i : Int} {w : World} {a : Option Addr} {cap : Nat} (hi : i < 0 ∨ (n : Int) ≤ i) :
    Calls Tryd.prog 14 #[.int .i64 i, .slice a n cap] w fun e w' => e = .returned (.tuple #[.slice none 0 0, .bool false]) ∧ w = w' := by
  rcases Classical.em (i < 0) with h1 | h1
  · have d1 : decide (i < 0) = true := by simpa using h1
    clear hi
    go_enter Tryd.func14, Tryd.ntmps14
    go_wp2_with fail
    go_ret2
    exact ⟨rfl, rfl⟩
  · have d1 : decide (i < 0) = false := by simpa using h1
    have h2 : (n : Int) ≤ i := by omega
    have d2 : decide ((n : Int) ≤ i) = true := by simpa using h2
    clear hi
    go_enter Tryd.func14, Tryd.ntmps14
    go_wp2_with fail
    go_ret2
    exact ⟨rfl, rfl⟩
set_option maxRecDepth 20000 in
set_option maxHeartbeats 800000 in
theorem sameHashes_walk {w : World} {a b : Option Addr} {n ca cb : Nat} {L : List (List Int)} (hn : L.length = n) (ha : Hs w a L) (hb : Hs w b L) :
    Calls Tryd.prog 15 #[.slice a n ca, .slice b n cb] w fun e w' => e = .returned (.bool true) ∧ Keeps Nil w w' := by
  have hUH := Tryd.undH
  have HN := Lib.hid hn
  have hm := ha.most
  rw [hn] at hm
  clear hn
  have HA := Lib.hid ha
  have HB := Lib.hid hb
  clear ha hb
  go_enter Tryd.func15, Tryd.ntmps15
  go_wp2_with fail
  go_loopw [5, 6] (fun x _ wr => ∃ j : Nat, j ≤ n ∧ x = .int .i64 j ∧ Hid (Keeps Nil w wr)) (fun x _ _ => n - (intOf x).toNat)
  case atStart => exact ⟨0, Nat.zero_le _, rfl, Lib.hid (Keeps.refl _ _)⟩
  case round =>
    obtain ⟨j, hj, rfl, hk⟩ := hrel
    by_cases hlt : j < n
    · obtain ⟨b1, o1, rfl, _, hr1⟩ := HA.out.rng (by rw [HN.out]; omega)
      obtain ⟨b2, o2, rfl, _, hr2⟩ := HB.out.rng (by rw [HN.out]; omega)
      have l1 := rangeAt_keep (hr1 j (by rw [HN.out]; exact hlt)) hk.out (fun h => h)
      have l2 := rangeAt_keep (hr2 j (by rw [HN.out]; exact hlt)) hk.out (fun h => h)
      have hx := HA.out.are.at_ (i := j) (by rw [HN.out]; exact hlt)
      have hiX : (Tryd.prog.info? 26).map (·.size) = some (byteV (L.getD j [])).length := by rw [byteV_len, hx.1]; exact Tryd.infoH
      have hqE := fun w => Tryd.eqlDig hx.1 hx.1 hx.2 hx.2 w
      rw [beq_self_eq_true] at hqE
      have hgE := Tryd.guardH2 .eql
      clear hr1 hr2 hx
      generalize L.getD j [] = X at *
      have hj0 : (0 : Int) ≤ j := by omega
      have hj1 : (j : Int) < n := by omega
      go_wp2_with fail
      refine wp_region_held_drew (S := fun w' => Keeps Nil wr.drew w') (by kernel_rfl) (Keeps.refl _ _) (fun hHeld => ?_)
      have hk2 := hk.out.drew
      replace l1 := rangeAt_keep l1 (Keeps.refl Nil wr).drew (fun h => h)
      replace l2 := rangeAt_keep l2 (Keeps.refl Nil wr).drew (fun h => h)
      generalize wr.drew = v0 at *
      refine takeL (i := 0) (v := _) rfl (by kernel_rfl) (by kernel_rfl) (by kernel_rfl) (fun _ _ _ h => h) (Or.inl ⟨by rfl, by intro w hSw; (try dsimp only at hSw); go_simp; try with_reducible rfl⟩) (by assumption) ?_
      try simp only [Act.put, List.setIfInBounds_toArray, List.set_cons_zero, List.set_cons_succ]
      refine takeL (i := 1) (v := _) rfl (by kernel_rfl) (by kernel_rfl) (by kernel_rfl) (fun _ _ _ h => h) (Or.inl ⟨by rfl, by intro w hSw; (try dsimp only at hSw); go_simp; try with_reducible rfl⟩) (by assumption) ?_
      try simp only [Act.put, List.setIfInBounds_toArray, List.set_cons_zero, List.set_cons_succ]
      refine takeL (i := 2) (v := _) rfl (by kernel_rfl) (by kernel_rfl) (by kernel_rfl) (fun _ _ _ h => h) (Or.inl ⟨by rfl, by intro w hSw; (try dsimp only at hSw); go_simp; try with_reducible rfl⟩) (by assumption) ?_
      try simp only [Act.put, List.setIfInBounds_toArray, List.set_cons_zero, List.set_cons_succ]
      refine takeL (i := 3) (v := _) rfl (by kernel_rfl) (by kernel_rfl) (by kernel_rfl) (fun _ _ _ h => h) (yieldsIf_load_mid (by rfl) 26 _ rfl b1 (o1+j*32) rfl (byteV X) _ (fun w hSw => (rangeAt_keep l1 hSw (fun h => h))) hUH rfl hiX) (by assumption) ?_
      try simp only [Act.put, List.setIfInBounds_toArray, List.set_cons_zero, List.set_cons_succ]
      refine takeL (i := 4) (v := _) rfl (by kernel_rfl) (by kernel_rfl) (by kernel_rfl) (fun _ _ _ h => h) (Or.inl ⟨by rfl, by intro w hSw; (try dsimp only at hSw); go_simp; try with_reducible rfl⟩) (by assumption) ?_
      try simp only [Act.put, List.setIfInBounds_toArray, List.set_cons_zero, List.set_cons_succ]
      refine takeL (i := 5) (v := _) rfl (by kernel_rfl) (by kernel_rfl) (by kernel_rfl) (fun _ _ _ h => h) (Or.inl ⟨by rfl, by intro w hSw; (try dsimp only at hSw); go_simp; try with_reducible rfl⟩) (by assumption) ?_
      try simp only [Act.put, List.setIfInBounds_toArray, List.set_cons_zero, List.set_cons_succ]
      refine takeL (i := 6) (v := _) rfl (by kernel_rfl) (by kernel_rfl) (by kernel_rfl) (fun _ _ _ h => h) (Or.inl ⟨by rfl, by intro w hSw; (try dsimp only at hSw); go_simp; try with_reducible rfl⟩) (by assumption) ?_
      try simp only [Act.put, List.setIfInBounds_toArray, List.set_cons_zero, List.set_cons_succ]
      refine takeL (i := 7) (v := _) rfl (by kernel_rfl) (by kernel_rfl) (by kernel_rfl) (fun _ _ _ h => h) (yieldsIf_load_mid (by rfl) 26 _ rfl b2 (o2+j*32) rfl (byteV X) _ (fun w hSw => (rangeAt_keep l2 hSw (fun h => h))) hUH rfl hiX) (by assumption) ?_
      try simp only [Act.put, List.setIfInBounds_toArray, List.set_cons_zero, List.set_cons_succ]
      refine takeL (i := 8) (v := _) rfl (by kernel_rfl) (by kernel_rfl) (by kernel_rfl) (fun _ _ _ h => h) (yieldsIf_bin (by rfl) _ _ _ _ _ rfl _ _ rfl rfl _ hqE (hgE _ _ _ _)) (by assumption) ?_
      try simp only [Act.put, List.setIfInBounds_toArray, List.set_cons_zero, List.set_cons_succ]
      refine takeL (i := 9) (v := _) rfl (by kernel_rfl) (by kernel_rfl) (by kernel_rfl) (fun _ _ _ h => h) (Or.inl ⟨by rfl, by intro w hSw; (try dsimp only at hSw); go_simp; try with_reducible rfl⟩) (by assumption) ?_
      try simp only [Act.put, List.setIfInBounds_toArray, List.set_cons_zero, List.set_cons_succ]
      refine wpAnyH_done (by kernel_rfl) ?_ _
      have HK := Lib.hid hk2
      clear hk2 l1 l2
      go_wp2_with fail
      exact ⟨⟨j + 1, by omega, by go_num, HK⟩, by simp [intOf]; omega⟩
    · obtain rfl : j = n := by omega
      go_wp2_with fail
      go_ret
      exact ⟨by first | rfl | simp, hk.out⟩
def RChkPost (w : World) (R X : List Int) (i n : Int) (P : List (List Int)) (e : Ending) (w' : World) : Prop := e = .returned (.int .i64 (codeO (chkE R X i n P))) ∧ Keeps Nil w w'
set_option maxRecDepth 100000 in
set_option maxHeartbeats 1600000 in
theorem refCheck_walk {w : World} {a : Option Addr} {cap : Nat} {P : List (List Int)} {R X : List Int} {i n : Int} {m : Nat} (hm : P.length = m) (h : Hs w a P) (hc : m ≤ cap) (hc9 : cap ≤ 9223372036854775807) (hR : Hash32 R) (hX : Hash32 X) :
    Calls Tryd.prog 20 #[keyV R, keyV X, .int .i64 i, .int .i64 n, .slice a m cap] w (RChkPost w R X i n P) := by
  obtain ⟨wA, hwA, hbR, hbX, hkA, hsA⟩ := alloc2 w (byteV R) 26 (byteV X) 26
  have HWA := Lib.hid hwA
  have HKA := Lib.hid hkA
  have hUH := Tryd.undH
  have hXl : (byteV X).length = 32 := by rw [byteV_len]; exact hX.1
  have hiX : (Tryd.prog.info? 26).map (·.size) = some (byteV X).length := by rw [hXl]; exact Tryd.infoH
  have hRl : (byteV R).length = 32 := by rw [byteV_len]; exact hR.1
  have hiR : (Tryd.prog.info? 26).map (·.size) = some (byteV R).length := by rw [hRl]; exact Tryd.infoH
  have HU := Lib.hid (refUp_walk (X := X) (i := i) (n := n) hm (h.keep0 hkA) hc hc9 hX)
  have hV := upV_is hX i n P
  have hVl : (byteV (upV X i n P)).length = 32 := by rw [byteV_len]; exact hV.1
  have hiV : (Tryd.prog.info? 26).map (·.size) = some (byteV (upV X i n P)).length := by rw [hVl]; exact Tryd.infoH
  have hor := byteV_one (upV X i n P)
  have hzv := Tryd.zeroH32
  have HZ := Lib.hid (show (byteV z32).length = 32 by rw [byteV_len, z32_len])
  generalize byteV z32 = Z at *
  clear hwA hsA hkA h hm hc
  unfold RUpPost at HU
  cases hu : upE i n P.length with
  | some k =>
    have hchk : chkE R X i n P = some k := by unfold chkE; rw [hu, if_neg (by simp)]
    rw [hu, show codeO (some k) = 101 + (k : Int) from rfl] at HU
    have HC := Lib.hid (show codeO (chkE R X i n P) = 101 + (k : Int) by rw [hchk]; rfl)
    have hk0 : ((101 + (k : Int)) == 0) = false := by simp; omega
    clear hu hchk
    unfold keyV at *
    generalize byteV (upV X i n P) = RR at *
    have HZR := Lib.hid (show RR.length = Z.length by rw [hVl, HZ.out])
    have hone : ∀ v ∈ RR, v.oneCell' = true := hor
    generalize 101 + (k : Int) = code at *
    clear hor
    go_enter Tryd.func20, Tryd.ntmps20
    go_wp2_with (first | (rw [← HWA.out]; refine wpl_load rfl 26 _ rfl (w.heap.size + 1) rfl hbX _ hUH rfl hiX ?_))
    go_wp2_with fail
    refine HU.out.mono ?_
    rintro e w2 ⟨rfl, qk⟩
    have hbN := Blk.new w2 Z 26
    have HK := Lib.hid ((HKA.out.trans qk).alloc (.cells Z.toArray 26))
    have hge := (HKA.out.trans qk).size
    clear qk
    go_wp2_with (refine wpl_store rfl 26 _ _ rfl w2.heap.size rfl RR rfl hbN HZR.out hiV hone ?_)
    intro w3 hb3 hk3 _
    go_wp2_with fail
    go_ret
    unfold RChkPost
    rw [HC.out]
    exact ⟨rfl, HK.out.step hk3 (fun i hi => .inr (by rw [show i = w2.heap.size from hi]; exact hge))⟩
  | none =>
    have hchk : chkE R X i n P = if upV X i n P = R then none else some 12 := by unfold chkE; rw [hu, if_pos rfl]
    rw [hu, show codeO none = 0 from rfl] at HU
    have hqN := fun w => Tryd.neqDig hV.1 hR.1 hV.2 hR.2 w
    have hgN := Tryd.guardH2 .neq
    unfold keyV at *
    by_cases heq : upV X i n P = R
    · rw [if_pos heq] at hchk
      have HC := Lib.hid (show codeO (chkE R X i n P) = 0 by rw [hchk]; rfl)
      rw [heq] at hqN HU hVl hiV hor
      rw [bne_self_eq_false] at hqN
      clear hu hchk heq
      generalize byteV R = RR at *
      have HZR := Lib.hid (show RR.length = Z.length by rw [hVl, HZ.out])
      have hone : ∀ v ∈ RR, v.oneCell' = true := hor
      clear hor
      go_enter Tryd.func20, Tryd.ntmps20
      go_wp2_with (first | (rw [← HWA.out]; refine wpl_load rfl 26 _ rfl (w.heap.size + 1) rfl hbX _ hUH rfl hiX ?_))
      go_wp2_with fail
      refine HU.out.mono ?_
      rintro e w2 ⟨rfl, qk⟩
      have hbN := Blk.new w2 Z 26
      have hka := (Keeps.refl Nil w2).alloc (.cells Z.toArray 26)
      have HK := Lib.hid ((HKA.out.trans qk).trans hka)
      have hge := (HKA.out.trans qk).size
      have hne : w.heap.size ≠ w2.heap.size := by have := hbR.lt; have := qk.size; omega
      have hbR2 := (hbR.keep0 qk).keep0 hka
      clear qk hka
      go_wp2_with (refine wpl_store rfl 26 _ _ rfl w2.heap.size rfl RR rfl hbN HZR.out hiV hone ?_)
      intro w3 hb3 hk3 _
      have hbR3 := hbR2.keep hk3 hne
      have HK3 := Lib.hid (HK.out.step hk3 (fun i hi => .inr (by rw [show i = w2.heap.size from hi]; exact hge)))
      clear hk3 hbR2 hbN hne
      go_wp2_with (first | (refine wpl_load rfl 26 _ rfl w2.heap.size rfl hb3 _ hUH rfl hiV ?_) | (refine wpl_load rfl 26 _ rfl w.heap.size rfl hbR3 _ hUH rfl hiR ?_) | (refine wpl_bin rfl _ _ _ _ _ rfl _ _ rfl rfl _ hqN (hgN _ _ _ _) ?_))
      go_ret
      unfold RChkPost
      rw [HC.out]
      exact ⟨rfl, HK3.out⟩
    · rw [if_neg heq] at hchk
      have HC := Lib.hid (show codeO (chkE R X i n P) = 113 by rw [hchk]; rfl)
      have hb1 : (upV X i n P != R) = true := by rw [bne_iff_ne]; exact heq
      rw [hb1] at hqN
      clear hu hchk heq hb1
      generalize byteV (upV X i n P) = RR at *
      have HZR := Lib.hid (show RR.length = Z.length by rw [hVl, HZ.out])
      have hone : ∀ v ∈ RR, v.oneCell' = true := hor
      clear hor
      go_enter Tryd.func20, Tryd.ntmps20
      go_wp2_with (first | (rw [← HWA.out]; refine wpl_load rfl 26 _ rfl (w.heap.size + 1) rfl hbX _ hUH rfl hiX ?_))
      go_wp2_with fail
      refine HU.out.mono ?_
      rintro e w2 ⟨rfl, qk⟩
      have hbN := Blk.new w2 Z 26
      have hka := (Keeps.refl Nil w2).alloc (.cells Z.toArray 26)
      have HK := Lib.hid ((HKA.out.trans qk).trans hka)
      have hge := (HKA.out.trans qk).size
      have hne : w.heap.size ≠ w2.heap.size := by have := hbR.lt; have := qk.size; omega
      have hbR2 := (hbR.keep0 qk).keep0 hka
      clear qk hka
      go_wp2_with (refine wpl_store rfl 26 _ _ rfl w2.heap.size rfl RR rfl hbN HZR.out hiV hone ?_)
      intro w3 hb3 hk3 _
      have hbR3 := hbR2.keep hk3 hne
      have HK3 := Lib.hid (HK.out.step hk3 (fun i hi => .inr (by rw [show i = w2.heap.size from hi]; exact hge)))
      clear hk3 hbR2 hbN hne
      go_wp2_with (first | (refine wpl_load rfl 26 _ rfl w2.heap.size rfl hb3 _ hUH rfl hiV ?_) | (refine wpl_load rfl 26 _ rfl w.heap.size rfl hbR3 _ hUH rfl hiR ?_) | (refine wpl_bin rfl _ _ _ _ _ rfl _ _ rfl rfl _ hqN (hgN _ _ _ _) ?_))
      go_ret
      unfold RChkPost
      rw [HC.out]
      exact ⟨rfl, HK3.out⟩
end Go.Proofs.YtmbdldnldcgdjaaDoor
