/-
  Up and Check: the program's.
-/
import Derived.Test.YtmbdldnldcgdjaaDoorProofUp
import Derived.Test.YtmbdldnldcgdjaaDoorSee
namespace Go.Proofs.YtmbdldnldcgdjaaDoor
set_option linter.unusedSimpArgs false
set_option linter.unusedVariables false
open Go.RowKit

/-- An error, as the number of one of api's, or none: as a value, as the document's code. -/
def errO (p : Nat → Addr) : Option Nat → Value
  | none => .nilIface
  | some k => errV p k
def codeO : Option Nat → Int
  | none => 0
  | some k => 101 + (k : Int)
theorem isErr_O {w : World} {p : Nat → Addr} (o : Option Nat) (h : ∀ k, o = some k → k < 19) : IsErr w p (errO p o) (codeO o) false 0 := by
  cases o with
  | none => exact .inl ⟨rfl, rfl, rfl, rfl⟩
  | some k => exact .inr (.inl ⟨k, h k rfl, rfl, rfl, rfl, rfl⟩)
theorem isV_O (o : Option Nat) : isV (codeO o) false 0 (codeO o) = true := by simp [isV, sameF]
/-- What Up tells. -/
def upE (i n : Int) (m : Nat) : Option Nat :=
  if i < 0 ∨ n ≤ i ∨ 1048576 < n then some 1 else if m < depthN i.toNat n.toNat then some 2 else if depthN i.toNat n.toNat < m then some 3 else none
def upV (X : List Int) (i n : Int) (P : List (List Int)) : List Int := if upE i n P.length = none then upL X i.toNat n.toNat P else z32
theorem upE_lt {i n : Int} {m k : Nat} (h : upE i n m = some k) : k < 19 := by
  unfold upE at h
  repeat' split at h
  all_goals first | (injection h with h; omega) | (cases h)
theorem upV_is {X : List Int} (hX : Hash32 X) (i n : Int) (P : List (List Int)) : Hash32 (upV X i n P) := by
  unfold upV
  split
  · exact upL_is hX _ _ _
  · exact ⟨z32_len, areB_zeros 32⟩
/-- What Check tells. -/
def chkE (R X : List Int) (i n : Int) (P : List (List Int)) : Option Nat := if upE i n P.length = none then (if upV X i n P = R then none else some 12) else upE i n P.length
theorem chkE_lt {R X : List Int} {i n : Int} {P : List (List Int)} {k : Nat} (h : chkE R X i n P = some k) : k < 19 := by
  unfold chkE at h
  split at h
  · split at h
    · cases h
    · injection h with h; omega
  · exact upE_lt h
theorem Tryd.builtZP : Tryd.prog.built 26 [] = some (byteV z32).toArray := by kernel_rfl
def UpPost (w : World) (p : Nat → Addr) (X : List Int) (i n : Int) (P : List (List Int)) (e : Ending) (w' : World) : Prop := e = .returned (.tuple #[keyV (upV X i n P), errO p (upE i n P.length)]) ∧ Keeps Nil w w'
set_option maxRecDepth 100000 in
set_option maxHeartbeats 1600000 in
theorem upBig_walk {w : World} {p : Nat → Addr} (hE : Errs w p) {a : Option Addr} {cap : Nat} {P : List (List Int)} {X : List Int} {i n : Int} {m : Nat} (hm : P.length = m) (h : Hs w a P) (hc : m ≤ cap) (hc9 : cap ≤ 9223372036854775807) (hX : Hash32 X) :
    Calls Tryd.prog 17 #[keyV X, .int .i64 i, .int .i64 n, .slice a m cap] w (UpPost w p X i n P) := by
  have hzv := Tryd.zeroH32
  have hbz := Tryd.builtZP
  have hone := byteV_one z32
  have HZ := Lib.hid (show (byteV z32).length = 32 by rw [byteV_len, z32_len])
  have HZV : Hid (keyV z32 = .agg (byteV z32).toArray) := Lib.hid rfl
  generalize hZZ : byteV z32 = Z at *
  clear hZZ
  obtain ⟨wA, hwA, hbX, hbZ, hkA, hsA⟩ := alloc2 w (byteV X) 26 Z 26
  have HWA := Lib.hid hwA
  have HKA := Lib.hid hkA
  have HG := Lib.hid (show ∀ i, One (w.heap.size + 1) i → Nil i ∨ w.heap.size ≤ i from fun i hi => .inr (by rw [show i = w.heap.size + 1 from hi]; omega))
  have hUH := Tryd.undH
  by_cases hbad : i < 0 ∨ n ≤ i ∨ 1048576 < n
  · have he : upE i n P.length = some 1 := by unfold upE; rw [if_pos hbad]
    have hv : upV X i n P = z32 := by unfold upV; rw [he, if_neg (by simp)]
    have HE := Lib.hid (And.intro hv he)
    have cV := (hE.keep hkA).at_ 1 (by decide)
    have HCV := Lib.hid (fun w' (hk : Keeps Nil w w') => (hE.keep hk).at_ 1 (by decide))
    have HV : Hid (errO p (some 1) = errV p 1) := Lib.hid rfl
    rw [show gnums.getD 1 0 = 0 from rfl] at cV HCV
    generalize errV p 1 = V at *
    clear he hv hwA hsA hkA hE h hm hc
    unfold keyV
    rcases Classical.em (i < 0) with h1 | h1
    · have d1 : decide (i < 0) = true := by simpa using h1
      clear hbad
      go_enter Tryd.func17, Tryd.ntmps17
      go_wp2_with fail
      rw [← HWA.out]
      -- HE : upE .. = some @K@ , 0 the variable, @RB@ the region's operations are 0 1 2 3
      refine wp_region_held_drew (S := fun w' => w'.cell? ⟨0, 0, none⟩ = some V) (by kernel_rfl) (by exact cV) (fun hHeld => ?_)
      replace hbZ := hbZ.drew
      have hKB := HKA.out.drew
      generalize wA.drew = v0 at *
      refine takeL (i := 0) (v := .agg (Z).toArray) rfl (by kernel_rfl) (by kernel_rfl) (by kernel_rfl) (fun _ _ _ h => h) (yieldsIf_build (by rfl) 26 _ rfl (Z) _ hbz (by simp [Act.eval])) (by assumption) ?_
      try simp only [Act.put, List.setIfInBounds_toArray, List.set_cons_zero, List.set_cons_succ]
      refine takeL (i := 1) (v := _) rfl (by kernel_rfl) (by kernel_rfl) (by kernel_rfl) (fun _ _ _ h => h) (Or.inl ⟨by rfl, by intro w hSw; (try dsimp only at hSw); go_simp; try with_reducible rfl⟩) (by assumption) ?_
      try simp only [Act.put, List.setIfInBounds_toArray, List.set_cons_zero, List.set_cons_succ]
      refine onlyL (i := 2) rfl (by kernel_rfl) (fun K hK => ?_)
      refine step_store rfl 26 _ _ rfl (w.heap.size + 1) rfl Z rfl hbZ rfl (by rw [HZ.out]; exact Tryd.infoH) hone ?_
      intro w5 hb4 hk4 _
      refine (fun hHeld => hK _ _ hHeld ?_) ((HCV.out w5 (hKB.step hk4 HG.out)))
      clear hK
      try simp only [Act.put, List.setIfInBounds_toArray, List.set_cons_zero, List.set_cons_succ]
      refine takeL (i := 3) (v := _) rfl (by kernel_rfl) (by kernel_rfl) (by kernel_rfl) (fun _ _ _ h => h) (Or.inl ⟨by rfl, by intro w hSw; (try dsimp only at hSw); go_simp; try with_reducible rfl⟩) (by assumption) ?_
      try simp only [Act.put, List.setIfInBounds_toArray, List.set_cons_zero, List.set_cons_succ]
      refine wpAnyH_done (by kernel_rfl) ?_ _
      go_wp2_with fail
      exact ret_blk_tmp Tryd.results17 (w.heap.size + 1) rfl hb4 _ hUH rfl (by rw [HZ.out]; exact Tryd.infoH) rfl rfl (by unfold UpPost; rw [HE.out.1, HE.out.2, HZV.out, HV.out]; exact ⟨rfl, hKB.step hk4 HG.out⟩)
    · rcases Classical.em (n ≤ i) with h2 | h2
      · have d1 : decide (i < 0) = false := by simpa using h1
        have d2 : decide (n ≤ i) = true := by simpa using h2
        clear hbad
        go_enter Tryd.func17, Tryd.ntmps17
        go_wp2_with fail
        rw [← HWA.out]
        -- HE : upE .. = some @K@ , 0 the variable, @RB@ the region's operations are 0 1 2 3
        refine wp_region_held_drew (S := fun w' => w'.cell? ⟨0, 0, none⟩ = some V) (by kernel_rfl) (by exact cV) (fun hHeld => ?_)
        replace hbZ := hbZ.drew
        have hKB := HKA.out.drew
        generalize wA.drew = v0 at *
        refine takeL (i := 0) (v := .agg (Z).toArray) rfl (by kernel_rfl) (by kernel_rfl) (by kernel_rfl) (fun _ _ _ h => h) (yieldsIf_build (by rfl) 26 _ rfl (Z) _ hbz (by simp [Act.eval])) (by assumption) ?_
        try simp only [Act.put, List.setIfInBounds_toArray, List.set_cons_zero, List.set_cons_succ]
        refine takeL (i := 1) (v := _) rfl (by kernel_rfl) (by kernel_rfl) (by kernel_rfl) (fun _ _ _ h => h) (Or.inl ⟨by rfl, by intro w hSw; (try dsimp only at hSw); go_simp; try with_reducible rfl⟩) (by assumption) ?_
        try simp only [Act.put, List.setIfInBounds_toArray, List.set_cons_zero, List.set_cons_succ]
        refine onlyL (i := 2) rfl (by kernel_rfl) (fun K hK => ?_)
        refine step_store rfl 26 _ _ rfl (w.heap.size + 1) rfl Z rfl hbZ rfl (by rw [HZ.out]; exact Tryd.infoH) hone ?_
        intro w5 hb4 hk4 _
        refine (fun hHeld => hK _ _ hHeld ?_) ((HCV.out w5 (hKB.step hk4 HG.out)))
        clear hK
        try simp only [Act.put, List.setIfInBounds_toArray, List.set_cons_zero, List.set_cons_succ]
        refine takeL (i := 3) (v := _) rfl (by kernel_rfl) (by kernel_rfl) (by kernel_rfl) (fun _ _ _ h => h) (Or.inl ⟨by rfl, by intro w hSw; (try dsimp only at hSw); go_simp; try with_reducible rfl⟩) (by assumption) ?_
        try simp only [Act.put, List.setIfInBounds_toArray, List.set_cons_zero, List.set_cons_succ]
        refine wpAnyH_done (by kernel_rfl) ?_ _
        go_wp2_with fail
        exact ret_blk_tmp Tryd.results17 (w.heap.size + 1) rfl hb4 _ hUH rfl (by rw [HZ.out]; exact Tryd.infoH) rfl rfl (by unfold UpPost; rw [HE.out.1, HE.out.2, HZV.out, HV.out]; exact ⟨rfl, hKB.step hk4 HG.out⟩)
      · have d1 : decide (i < 0) = false := by simpa using h1
        have d2 : decide (n ≤ i) = false := by simpa using h2
        have d3 : 1048576 < n := by omega
        clear hbad
        go_enter Tryd.func17, Tryd.ntmps17
        go_wp2_with fail
        rw [← HWA.out]
        -- HE : upE .. = some @K@ , 0 the variable, @RB@ the region's operations are 0 1 2 3
        refine wp_region_held_drew (S := fun w' => w'.cell? ⟨0, 0, none⟩ = some V) (by kernel_rfl) (by exact cV) (fun hHeld => ?_)
        replace hbZ := hbZ.drew
        have hKB := HKA.out.drew
        generalize wA.drew = v0 at *
        refine takeL (i := 0) (v := .agg (Z).toArray) rfl (by kernel_rfl) (by kernel_rfl) (by kernel_rfl) (fun _ _ _ h => h) (yieldsIf_build (by rfl) 26 _ rfl (Z) _ hbz (by simp [Act.eval])) (by assumption) ?_
        try simp only [Act.put, List.setIfInBounds_toArray, List.set_cons_zero, List.set_cons_succ]
        refine takeL (i := 1) (v := _) rfl (by kernel_rfl) (by kernel_rfl) (by kernel_rfl) (fun _ _ _ h => h) (Or.inl ⟨by rfl, by intro w hSw; (try dsimp only at hSw); go_simp; try with_reducible rfl⟩) (by assumption) ?_
        try simp only [Act.put, List.setIfInBounds_toArray, List.set_cons_zero, List.set_cons_succ]
        refine onlyL (i := 2) rfl (by kernel_rfl) (fun K hK => ?_)
        refine step_store rfl 26 _ _ rfl (w.heap.size + 1) rfl Z rfl hbZ rfl (by rw [HZ.out]; exact Tryd.infoH) hone ?_
        intro w5 hb4 hk4 _
        refine (fun hHeld => hK _ _ hHeld ?_) ((HCV.out w5 (hKB.step hk4 HG.out)))
        clear hK
        try simp only [Act.put, List.setIfInBounds_toArray, List.set_cons_zero, List.set_cons_succ]
        refine takeL (i := 3) (v := _) rfl (by kernel_rfl) (by kernel_rfl) (by kernel_rfl) (fun _ _ _ h => h) (Or.inl ⟨by rfl, by intro w hSw; (try dsimp only at hSw); go_simp; try with_reducible rfl⟩) (by assumption) ?_
        try simp only [Act.put, List.setIfInBounds_toArray, List.set_cons_zero, List.set_cons_succ]
        refine wpAnyH_done (by kernel_rfl) ?_ _
        go_wp2_with fail
        exact ret_blk_tmp Tryd.results17 (w.heap.size + 1) rfl hb4 _ hUH rfl (by rw [HZ.out]; exact Tryd.infoH) rfl rfl (by unfold UpPost; rw [HE.out.1, HE.out.2, HZV.out, HV.out]; exact ⟨rfl, hKB.step hk4 HG.out⟩)
  · obtain ⟨i, rfl⟩ := Int.eq_ofNat_of_zero_le (show 0 ≤ i by omega)
    obtain ⟨n, rfl⟩ := Int.eq_ofNat_of_zero_le (show 0 ≤ n by omega)
    have hin : (i : Int) < n := by omega
    have hn9 : (n : Int) ≤ 1048576 := by omega
    have hi0 : (0 : Int) ≤ i := by omega
    have hE0 : upE i n P.length = if m < depthN i n then some 2 else if depthN i n < m then some 3 else none := by
      unfold upE
      rw [if_neg hbad, hm]
      simp only [Int.toNat_natCast]
    have hU := up_walk n i m (w := wA) (a := a) (cap := cap) (P := P) (X := X) hm
    have HD := Lib.hid (depth_walk n i wA (by omega) (by omega))
    have hdl := depthN_le n i
    have HDL := Lib.hid hdl
    have hdb : (depthN i n : Int) ≤ 1048576 := by omega
    generalize depthN i n = d at *
    by_cases h2 : m < d
    · rw [if_pos h2] at hE0
      have hv : upV X i n P = z32 := by unfold upV; rw [hE0, if_neg (by simp)]
      have HE := Lib.hid (And.intro hv hE0)
      have cV := (hE.keep hkA).at_ 2 (by decide)
      have HCV := Lib.hid (fun w' (hk : Keeps Nil w w') => (hE.keep hk).at_ 2 (by decide))
      have HV : Hid (errO p (some 2) = errV p 2) := Lib.hid rfl
      rw [show gnums.getD 2 0 = 1 from rfl] at cV HCV
      generalize errV p 2 = V at *
      have h2' : (m : Int) < d := by omega
      clear hE0 hv hwA hsA hkA hE h hm hc hbad hU hdl
      unfold keyV
      go_enter Tryd.func17, Tryd.ntmps17
      go_wp2_with fail
      rw [← HWA.out]
      refine HD.out.mono ?_
      rintro e w1 ⟨rfl, rfl⟩
      go_wp2_with fail
      -- HE : upE .. = some @K@ , 1 the variable, @RB@ the region's operations are 0 1 2 3
      refine wp_region_held_drew (S := fun w' => w'.cell? ⟨1, 0, none⟩ = some V) (by kernel_rfl) (by exact cV) (fun hHeld => ?_)
      replace hbZ := hbZ.drew
      have hKB := HKA.out.drew
      generalize wA.drew = v0 at *
      refine takeL (i := 0) (v := .agg (Z).toArray) rfl (by kernel_rfl) (by kernel_rfl) (by kernel_rfl) (fun _ _ _ h => h) (yieldsIf_build (by rfl) 26 _ rfl (Z) _ hbz (by simp [Act.eval])) (by assumption) ?_
      try simp only [Act.put, List.setIfInBounds_toArray, List.set_cons_zero, List.set_cons_succ]
      refine takeL (i := 1) (v := _) rfl (by kernel_rfl) (by kernel_rfl) (by kernel_rfl) (fun _ _ _ h => h) (Or.inl ⟨by rfl, by intro w hSw; (try dsimp only at hSw); go_simp; try with_reducible rfl⟩) (by assumption) ?_
      try simp only [Act.put, List.setIfInBounds_toArray, List.set_cons_zero, List.set_cons_succ]
      refine onlyL (i := 2) rfl (by kernel_rfl) (fun K hK => ?_)
      refine step_store rfl 26 _ _ rfl (w.heap.size + 1) rfl Z rfl hbZ rfl (by rw [HZ.out]; exact Tryd.infoH) hone ?_
      intro w5 hb4 hk4 _
      refine (fun hHeld => hK _ _ hHeld ?_) ((HCV.out w5 (hKB.step hk4 HG.out)))
      clear hK
      try simp only [Act.put, List.setIfInBounds_toArray, List.set_cons_zero, List.set_cons_succ]
      refine takeL (i := 3) (v := _) rfl (by kernel_rfl) (by kernel_rfl) (by kernel_rfl) (fun _ _ _ h => h) (Or.inl ⟨by rfl, by intro w hSw; (try dsimp only at hSw); go_simp; try with_reducible rfl⟩) (by assumption) ?_
      try simp only [Act.put, List.setIfInBounds_toArray, List.set_cons_zero, List.set_cons_succ]
      refine wpAnyH_done (by kernel_rfl) ?_ _
      go_wp2_with fail
      exact ret_blk_tmp Tryd.results17 (w.heap.size + 1) rfl hb4 _ hUH rfl (by rw [HZ.out]; exact Tryd.infoH) rfl rfl (by unfold UpPost; rw [HE.out.1, HE.out.2, HZV.out, HV.out]; exact ⟨rfl, hKB.step hk4 HG.out⟩)
    · rw [if_neg h2] at hE0
      by_cases h3 : d < m
      · rw [if_pos h3] at hE0
        have hv : upV X i n P = z32 := by unfold upV; rw [hE0, if_neg (by simp)]
        have HE := Lib.hid (And.intro hv hE0)
        have cV := (hE.keep hkA).at_ 3 (by decide)
        have HCV := Lib.hid (fun w' (hk : Keeps Nil w w') => (hE.keep hk).at_ 3 (by decide))
        have HV : Hid (errO p (some 3) = errV p 3) := Lib.hid rfl
        rw [show gnums.getD 3 0 = 2 from rfl] at cV HCV
        generalize errV p 3 = V at *
        have h2' : ¬ (m : Int) < d := by omega
        have h3' : (d : Int) < m := by omega
        clear hE0 hv hwA hsA hkA hE h hm hc hbad hU hdl
        unfold keyV
        go_enter Tryd.func17, Tryd.ntmps17
        go_wp2_with fail
        rw [← HWA.out]
        refine HD.out.mono ?_
        rintro e w1 ⟨rfl, rfl⟩
        go_wp2_with fail
        -- HE : upE .. = some @K@ , 2 the variable, @RB@ the region's operations are 0 1 2 3
        refine wp_region_held_drew (S := fun w' => w'.cell? ⟨2, 0, none⟩ = some V) (by kernel_rfl) (by exact cV) (fun hHeld => ?_)
        replace hbZ := hbZ.drew
        have hKB := HKA.out.drew
        generalize wA.drew = v0 at *
        refine takeL (i := 0) (v := .agg (Z).toArray) rfl (by kernel_rfl) (by kernel_rfl) (by kernel_rfl) (fun _ _ _ h => h) (yieldsIf_build (by rfl) 26 _ rfl (Z) _ hbz (by simp [Act.eval])) (by assumption) ?_
        try simp only [Act.put, List.setIfInBounds_toArray, List.set_cons_zero, List.set_cons_succ]
        refine takeL (i := 1) (v := _) rfl (by kernel_rfl) (by kernel_rfl) (by kernel_rfl) (fun _ _ _ h => h) (Or.inl ⟨by rfl, by intro w hSw; (try dsimp only at hSw); go_simp; try with_reducible rfl⟩) (by assumption) ?_
        try simp only [Act.put, List.setIfInBounds_toArray, List.set_cons_zero, List.set_cons_succ]
        refine onlyL (i := 2) rfl (by kernel_rfl) (fun K hK => ?_)
        refine step_store rfl 26 _ _ rfl (w.heap.size + 1) rfl Z rfl hbZ rfl (by rw [HZ.out]; exact Tryd.infoH) hone ?_
        intro w5 hb4 hk4 _
        refine (fun hHeld => hK _ _ hHeld ?_) ((HCV.out w5 (hKB.step hk4 HG.out)))
        clear hK
        try simp only [Act.put, List.setIfInBounds_toArray, List.set_cons_zero, List.set_cons_succ]
        refine takeL (i := 3) (v := _) rfl (by kernel_rfl) (by kernel_rfl) (by kernel_rfl) (fun _ _ _ h => h) (Or.inl ⟨by rfl, by intro w hSw; (try dsimp only at hSw); go_simp; try with_reducible rfl⟩) (by assumption) ?_
        try simp only [Act.put, List.setIfInBounds_toArray, List.set_cons_zero, List.set_cons_succ]
        refine wpAnyH_done (by kernel_rfl) ?_ _
        go_wp2_with fail
        exact ret_blk_tmp Tryd.results17 (w.heap.size + 1) rfl hb4 _ hUH rfl (by rw [HZ.out]; exact Tryd.infoH) rfl rfl (by unfold UpPost; rw [HE.out.1, HE.out.2, HZV.out, HV.out]; exact ⟨rfl, hKB.step hk4 HG.out⟩)
      · rw [if_neg h3] at hE0
        have hv : upV X i n P = upL X i n P := by unfold upV; rw [hE0, if_pos rfl]; simp only [Int.toNat_natCast]
        have HE := Lib.hid (And.intro hv hE0)
        have HU := Lib.hid (hU (by omega) (h.keep0 hkA) hc hc9 (by omega) (by omega) hX)
        have h2' : ¬ (m : Int) < d := by omega
        have h3' : ¬ (d : Int) < m := by omega
        have hXl : (byteV X).length = 32 := by rw [byteV_len]; exact hX.1
        have hiX : (Tryd.prog.info? 26).map (·.size) = some (byteV X).length := by rw [hXl]; exact Tryd.infoH
        have hRl := upL_is hX i n P
        have hRb : (byteV (upL X i n P)).length = 32 := by rw [byteV_len]; exact hRl.1
        have hiR : (Tryd.prog.info? 26).map (·.size) = some (byteV (upL X i n P)).length := by rw [hRb]; exact Tryd.infoH
        have hor := byteV_one (upL X i n P)
        clear hE0 hv hwA hsA hkA hE h hm hc hbad hU hdl hRl
        unfold UpP at HU
        unfold keyV at *
        generalize hRR : byteV (upL X i n P) = RR at *
        have HRR := Lib.hid hRR
        clear hRR
        go_enter Tryd.func17, Tryd.ntmps17
        go_wp2_with fail
        rw [← HWA.out]
        refine HD.out.mono ?_
        rintro e w1 ⟨rfl, rfl⟩
        go_wp2_with (refine wpl_load rfl 26 _ rfl w.heap.size rfl hbX _ hUH rfl hiX ?_)
        go_wp2_with fail
        refine HU.out.mono ?_
        rintro e w2 ⟨rfl, qk⟩
        have hbZ2 := hbZ.keep0 qk
        have hKB := HKA.out.trans qk
        clear qk hbX hbZ
        go_wp2_with (refine wpl_store rfl 26 _ _ rfl (w.heap.size + 1) rfl RR rfl hbZ2 (by rw [hRb, HZ.out]) hiR hor ?_)
        intro w3 hb3 hk3 _
        go_wp2_with fail
        exact ret_blk_tmp Tryd.results17 (w.heap.size + 1) rfl hb3 _ hUH rfl hiR rfl rfl (by unfold UpPost; rw [HE.out.1, HE.out.2]; exact ⟨by unfold keyV; rw [HRR.out]; rfl, hKB.step hk3 HG.out⟩)
/-- A block's two digests compared. -/
def ChkPost (w : World) (p : Nat → Addr) (R X : List Int) (i n : Int) (P : List (List Int)) (e : Ending) (w' : World) : Prop := e = .returned (errO p (chkE R X i n P)) ∧ Keeps Nil w w'
theorem Tryd.errNotNil (p : Nat → Addr) (k : Nat) (w : World) : (binOp .eql 30 (errV p k) .nilIface).run Tryd.prog w = .ok (.bool false) w := by kernel_rfl
theorem Tryd.eqgH : Tryd.prog.eqGuardType Tryd.prog.depth 26 = false := by kernel_rfl
theorem Tryd.guardH2 (op : BinOp) (x y : Operand) (xs ys : List Value) (w : World) : (eqGuard op 26 x y (.agg xs.toArray) (.agg ys.toArray)).run Tryd.prog w = .ok () w := run_eqGuard_agg w op _ x y _ _ Tryd.eqgH
set_option maxRecDepth 100000 in
set_option maxHeartbeats 1600000 in
theorem check_walk {w : World} {p : Nat → Addr} (hE : Errs w p) {a : Option Addr} {cap : Nat} {P : List (List Int)} {R X : List Int} {i n : Int} {m : Nat} (hm : P.length = m) (h : Hs w a P) (hc : m ≤ cap) (hc9 : cap ≤ 9223372036854775807) (hR : Hash32 R) (hX : Hash32 X) :
    Calls Tryd.prog 19 #[keyV R, keyV X, .int .i64 i, .int .i64 n, .slice a m cap] w (ChkPost w p R X i n P) := by
  obtain ⟨wA, hwA, hbR, hbX, hkA, hsA⟩ := alloc2 w (byteV R) 26 (byteV X) 26
  have HWA := Lib.hid hwA
  have HKA := Lib.hid hkA
  have hUH := Tryd.undH
  have hXl : (byteV X).length = 32 := by rw [byteV_len]; exact hX.1
  have hiX : (Tryd.prog.info? 26).map (·.size) = some (byteV X).length := by rw [hXl]; exact Tryd.infoH
  have hRl : (byteV R).length = 32 := by rw [byteV_len]; exact hR.1
  have hiR : (Tryd.prog.info? 26).map (·.size) = some (byteV R).length := by rw [hRl]; exact Tryd.infoH
  have HU := Lib.hid (upBig_walk (X := X) (i := i) (n := n) (hE.keep hkA) hm (h.keep0 hkA) hc hc9 hX)
  have hV := upV_is hX i n P
  have hVl : (byteV (upV X i n P)).length = 32 := by rw [byteV_len]; exact hV.1
  have hiV : (Tryd.prog.info? 26).map (·.size) = some (byteV (upV X i n P)).length := by rw [hVl]; exact Tryd.infoH
  have hor := byteV_one (upV X i n P)
  have HEW := Lib.hid (fun w' (hk : Keeps Nil w w') => (hE.keep hk).at_ 12 (by decide))
  rw [show gnums.getD 12 0 = 3 from rfl] at HEW
  have hzv := Tryd.zeroH32
  have HZ := Lib.hid (show (byteV z32).length = 32 by rw [byteV_len, z32_len])
  generalize byteV z32 = Z at *
  clear hwA hsA hkA hE h hm hc
  unfold UpPost at HU
  cases hu : upE i n P.length with
  | some k =>
    have hchk : chkE R X i n P = some k := by unfold chkE; rw [hu, if_neg (by simp)]
    rw [hu, show errO p (some k) = errV p k from rfl] at HU
    have HC := Lib.hid (show errO p (chkE R X i n P) = errV p k by rw [hchk]; rfl)
    clear hu hchk
    unfold errV keyV at *
    generalize byteV (upV X i n P) = RR at *
    have HZR := Lib.hid (show RR.length = Z.length by rw [hVl, HZ.out])
    have hone : ∀ v ∈ RR, v.oneCell' = true := hor
    clear hor
    go_enter Tryd.func19, Tryd.ntmps19
    go_wp2_with (first | (rw [← HWA.out]; refine wpl_load rfl 26 _ rfl (w.heap.size + 1) rfl hbX _ hUH rfl hiX ?_))
    go_wp2_with fail
    refine HU.out.mono ?_
    rintro e w2 ⟨rfl, qk⟩
    have hbN := Blk.new w2 Z 26
    have HK := Lib.hid ((HKA.out.trans qk).alloc (.cells Z.toArray 26))
    have hge := (HKA.out.trans qk).size
    clear qk
    go_wp2_with (refine wpl_store rfl 26 _ _ rfl w2.heap.size rfl RR rfl hbN HZR.out hiV hone ?_)
    intro w3 hb3 hk3 _
    go_wp2_with fail
    go_ret
    unfold ChkPost
    rw [HC.out]
    exact ⟨rfl, HK.out.step hk3 (fun i hi => .inr (by rw [show i = w2.heap.size from hi]; exact hge))⟩
  | none =>
    have hchk : chkE R X i n P = if upV X i n P = R then none else some 12 := by unfold chkE; rw [hu, if_pos rfl]
    rw [hu, show errO p none = .nilIface from rfl] at HU
    have hqN := fun w => Tryd.neqDig hV.1 hR.1 hV.2 hR.2 w
    have hgN := Tryd.guardH2 .neq
    unfold keyV at *
    by_cases heq : upV X i n P = R
    · rw [if_pos heq] at hchk
      have HC := Lib.hid (show errO p (chkE R X i n P) = .nilIface by rw [hchk]; rfl)
      rw [heq] at hqN HU hVl hiV hor
      rw [bne_self_eq_false] at hqN
      clear hu hchk heq
      generalize byteV R = RR at *
      have HZR := Lib.hid (show RR.length = Z.length by rw [hVl, HZ.out])
      have hone : ∀ v ∈ RR, v.oneCell' = true := hor
      clear hor
      go_enter Tryd.func19, Tryd.ntmps19
      go_wp2_with (first | (rw [← HWA.out]; refine wpl_load rfl 26 _ rfl (w.heap.size + 1) rfl hbX _ hUH rfl hiX ?_))
      go_wp2_with fail
      refine HU.out.mono ?_
      rintro e w2 ⟨rfl, qk⟩
      have hbN := Blk.new w2 Z 26
      have hka := (Keeps.refl Nil w2).alloc (.cells Z.toArray 26)
      have HK := Lib.hid ((HKA.out.trans qk).trans hka)
      have hge := (HKA.out.trans qk).size
      have hne : w.heap.size ≠ w2.heap.size := by have := hbR.lt; have := qk.size; omega
      have hbR2 := (hbR.keep0 qk).keep0 hka
      clear qk hka
      go_wp2_with (refine wpl_store rfl 26 _ _ rfl w2.heap.size rfl RR rfl hbN HZR.out hiV hone ?_)
      intro w3 hb3 hk3 _
      have hbR3 := hbR2.keep hk3 hne
      have HK3 := Lib.hid (HK.out.step hk3 (fun i hi => .inr (by rw [show i = w2.heap.size from hi]; exact hge)))
      clear hk3 hbR2 hbN hne
      go_wp2_with (first | (refine wpl_load rfl 26 _ rfl w2.heap.size rfl hb3 _ hUH rfl hiV ?_) | (refine wpl_load rfl 26 _ rfl w.heap.size rfl hbR3 _ hUH rfl hiR ?_) | (refine wpl_bin rfl _ _ _ _ _ rfl _ _ rfl rfl _ hqN (hgN _ _ _ _) ?_))
      go_ret
      unfold ChkPost
      rw [HC.out]
      exact ⟨rfl, HK3.out⟩
    · rw [if_neg heq] at hchk
      have HC := Lib.hid (show errO p (chkE R X i n P) = errV p 12 by rw [hchk]; rfl)
      have hb1 : (upV X i n P != R) = true := by rw [bne_iff_ne]; exact heq
      rw [hb1] at hqN
      clear hu hchk heq hb1
      generalize byteV (upV X i n P) = RR at *
      have HZR := Lib.hid (show RR.length = Z.length by rw [hVl, HZ.out])
      have hone : ∀ v ∈ RR, v.oneCell' = true := hor
      clear hor
      go_enter Tryd.func19, Tryd.ntmps19
      go_wp2_with (first | (rw [← HWA.out]; refine wpl_load rfl 26 _ rfl (w.heap.size + 1) rfl hbX _ hUH rfl hiX ?_))
      go_wp2_with fail
      refine HU.out.mono ?_
      rintro e w2 ⟨rfl, qk⟩
      have hbN := Blk.new w2 Z 26
      have hka := (Keeps.refl Nil w2).alloc (.cells Z.toArray 26)
      have HK := Lib.hid ((HKA.out.trans qk).trans hka)
      have hge := (HKA.out.trans qk).size
      have hne : w.heap.size ≠ w2.heap.size := by have := hbR.lt; have := qk.size; omega
      have hbR2 := (hbR.keep0 qk).keep0 hka
      clear qk hka
      go_wp2_with (refine wpl_store rfl 26 _ _ rfl w2.heap.size rfl RR rfl hbN HZR.out hiV hone ?_)
      intro w3 hb3 hk3 _
      have hbR3 := hbR2.keep hk3 hne
      have HK3 := Lib.hid (HK.out.step hk3 (fun i hi => .inr (by rw [show i = w2.heap.size from hi]; exact hge)))
      clear hk3 hbR2 hbN hne
      have cV := HEW.out w3 HK3.out
      generalize errV p 12 = V at *
      go_wp2_with (first | (refine wpl_load rfl 26 _ rfl w2.heap.size rfl hb3 _ hUH rfl hiV ?_) | (refine wpl_load rfl 26 _ rfl w.heap.size rfl hbR3 _ hUH rfl hiR ?_) | (refine wpl_bin rfl _ _ _ _ _ rfl _ _ rfl rfl _ hqN (hgN _ _ _ _) ?_))
      go_ret
      unfold ChkPost
      rw [HC.out]
      exact ⟨rfl, HK3.out⟩
end Go.Proofs.YtmbdldnldcgdjaaDoor
