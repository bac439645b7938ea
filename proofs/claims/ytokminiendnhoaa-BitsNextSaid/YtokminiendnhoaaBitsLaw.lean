/-
  The chapter's examples over bits, and the law BitsFill's walk.
-/
import Derived.Test.YtokminiendnhoaaBits
import Derived.Test.YtokminiendnhoaaNumber
namespace Go.Proofs.Ytokminiendnhoaa
open Go.RowKit

theorem capN_le (n : Int) : capN n ≤ 1000 := by unfold capN; omega
theorem ptr_ne (g : Nat) : (Value.pointer (some ⟨g, 0, none⟩) : Value) ≠ .pointer none := by simp

def True_ (w : World) (e : Ending) (w' : World) : Prop := e = .returned (.bool true) ∧ Keeps Nil w w'

set_option maxHeartbeats 400000 in
theorem bitsfirst_walk (w : World) : Calls Try.prog 8 #[] w (True_ w) := by
  have n0 : nextI (capN 0) (List.replicate (bytesOf (capN 0)) 0) 0 = -1 := by decide +kernel
  have s0 : hasI (capN 3) (List.replicate (bytesOf (capN 3)) 0) 0 = false := by decide +kernel
  have s1 : hasI (capN 3) (setB (List.replicate (bytesOf (capN 3)) 0) 0) 0 = true := by decide +kernel
  have f1 : frontI (capN 3) (setB (List.replicate (bytesOf (capN 3)) 0) 0) = 1 := by decide +kernel
  have n1 : nextI (capN 3) (setB (List.replicate (bytesOf (capN 3)) 0) 0) 0 = 1 := by decide +kernel
  have HN := Lib.hid (And.intro n0 (And.intro s0 (And.intro s1 (And.intro f1 n1))))
  clear n0 s0 s1 f1 n1
  go_enter Try.func8, Try.ntmps8
  go_wp2_with fail
  refine (new_walk _ _).mono ?_
  rintro e w1 ⟨g1, b1, rfl, hm1, hk1, hg1, hb1⟩
  go_wp2_with fail
  refine (new_walk _ _).mono ?_
  rintro e w2 ⟨g2, b2, rfl, hm2, hk2, hg2, hb2⟩
  go_wp2_with fail
  have hm1 := hm1.keep hk2 (fun h => h) (fun h => h)
  refine (next_walk _ _ hm1 (by omega) (by omega)).mono ?_
  rintro e w3 ⟨rfl, q, rfl⟩
  rw [HN.out.1]
  go_wp2_with fail
  refine (set_yes 0 _ (hm2.drewN _) (by decide) HN.out.2.1).mono ?_
  rintro e w4 ⟨rfl, hm4, hk4⟩
  go_wp2_with fail
  refine (set_no 0 _ hm4 (by omega) (by omega) (.inr (.inr HN.out.2.2.1))).mono ?_
  rintro e w5 ⟨rfl, rfl⟩
  go_wp2_with fail
  refine (front_walk _ hm4).mono ?_
  rintro e w6 ⟨rfl, rfl⟩
  rw [HN.out.2.2.2.1]
  go_wp2_with fail
  refine (next_walk _ _ hm4 (by omega) (by omega)).mono ?_
  rintro e w7 ⟨rfl, q7, rfl⟩
  rw [HN.out.2.2.2.2]
  go_wp2_with fail
  go_ret
  exact ⟨rfl, (((hk1.trans hk2).drewN q).step hk4 (fun i hi => .inr (by rw [show i = b2 from hi]; have := hk1.size; omega))).drewN _⟩

theorem IsMap.setlt {w : World} {g b n : Nat} {bs : List Int} (h : IsMap w g b n bs) {i : Nat} (hi : i < n) : i / 8 < bs.length := by
  have := h.len
  unfold bytesOf at this
  omega

set_option maxRecDepth 100000 in
set_option maxHeartbeats 2000000 in
theorem bitsFill_walk (a0 : Int) (a1 : Option Addr) (len1 cap1 : Nat) (z1 : List Int) (w : World) (w0 : (Lit.int .i64 a0).wf = true) (w1 : Row .i64 w a1 len1 z1) :
    Calls Try.prog 3 #[.int .i64 a0, .slice a1 len1 cap1] w (True_ w) := by
  have hr0 := i64_wf w0
  have hmost := w1.most
  have hn0 : 0 ≤ a0 % 40 := Int.emod_nonneg _ (by omega)
  have hn1 : a0 % 40 < 40 := Int.emod_lt_of_pos _ (by omega)
  go_enter Try.func3, Try.ntmps3
  go_wp2_with fail
  refine (bitsfirst_walk _).mono ?_
  rintro e wa ⟨rfl, hka⟩
  by_cases hlen : 40 < len1
  · go_wp2_with fail
    go_ret
    exact ⟨rfl, hka⟩
  · go_wp2_with fail
    refine (number_walk a0 40 _ (by omega) (by omega) (by omega) (by omega)).mono ?_
    rintro e wa ⟨rfl, rfl⟩
    generalize a0 % 40 = nn at *
    obtain ⟨n, rfl⟩ := Int.eq_ofNat_of_zero_le hn0
    go_wp2_with fail
    have hcap : capN n = n := by unfold capN; omega
    refine (new_walk _ _).mono ?_
    rw [hcap]
    clear hcap
    rintro e wb ⟨g, b, rfl, hm, hkb, hg, hb⟩
    go_wp2_with fail
    have hk1 : Keeps Nil w wb := hka.trans hkb
    have hkw0 := hka
    clear hkb hka
    have HG := Lib.hid (And.intro hg hb)
    clear hg hb
    go_loopw [7] (fun i wr => ∃ (j : Nat) (bs : List Int), j ≤ n ∧ i = .int .i64 j ∧ IsMap wr g b n bs ∧ Hid (countI n bs = j) ∧ Hid (Keeps Nil w wr)) (fun i _ => n - (intOf i).toNat)
    case atStart => exact ⟨0, _, Nat.zero_le _, rfl, hm, countI_zero _ _, hk1⟩
    case round =>
      obtain ⟨j, bs, hj, rfl, hm2, hcnt, hkr⟩ := hrel
      clear hm hk1
      by_cases hlt : j < n
      · have hcn : countI n bs < n := by have := hcnt.out; omega
        have hnx := nextI_some hcn
        have HX := Lib.hid hnx
        clear hcn hnx
        have hset : ∀ p : Nat, p < n → hasI n bs p = false → hasI n (setB bs p) p = true ∧ countI n (setB bs p) = j + 1 ∧ frontI n (setB bs p) ≤ j + 1 := by
          intro p hp hno
          have h1 := hasI_set (hm2.setlt hp) hm2.wf hp p
          have h2 := countI_set (hm2.setlt hp) hm2.wf hp hno
          have h3 := frontI_le n (setB bs p)
          rw [hcnt.out] at h2
          exact ⟨by rw [h1]; simp, h2, by omega⟩
        have HS := Lib.hid hset
        clear hset
        have hrest : ∀ f : Int, ∃ p : Nat, p < n ∧ nextI n bs f = p ∧ hasI n bs p = false := by
          intro f
          obtain ⟨k, hk, h1, h2, _⟩ := HX.out f
          have hr := placeOf_rng n f k (by omega)
          refine ⟨(placeOf n f k).toNat, by omega, by rw [h1]; omega, ?_⟩
          rwa [Int.toNat_of_nonneg hr.1]
        have HR := Lib.hid hrest
        clear hrest HX
        by_cases hz : len1 = 0
        · subst hz
          go_wp2_with fail
          refine (next_walk _ _ hm2 (by omega) (by omega)).mono ?_
          rintro e wc ⟨rfl, q, rfl⟩
          obtain ⟨p, hp, hv, hno⟩ := HR.out 0
          rw [hv]
          obtain ⟨s1, s2, s3⟩ := HS.out p hp hno
          have HH := Lib.hid (And.intro hno (And.intro s1 s2))
          clear hv hno s1 s2
          go_wp2_with fail
          refine (has_any _ _ (hm2.drewN _) (by omega) (by omega)).mono ?_
          rintro e wc ⟨rfl, rfl⟩
          rw [HH.out.1]
          go_wp2_with fail
          refine (set_yes p _ (hm2.drewN _) hp HH.out.1).mono ?_
          rintro e wd ⟨rfl, hm3, hk3⟩
          go_wp2_with fail
          refine (has_any _ _ hm3 (by omega) (by omega)).mono ?_
          rintro e wc ⟨rfl, rfl⟩
          rw [HH.out.2.1]
          go_wp2_with fail
          refine (count_walk _ hm3).mono ?_
          rintro e wc ⟨rfl, rfl⟩
          rw [HH.out.2.2]
          go_wp2_with fail
          refine (front_walk _ hm3).mono ?_
          rintro e wc ⟨rfl, rfl⟩
          generalize frontI n (setB bs p) = ff at *
          have hbb2 := HG.out.2
          have hkw := (hkr.out.drewN q).step hk3 (fun i hi => .inr (by rw [show i = b from hi]; have := hkw0.size; omega))
          go_wp2_with fail
          go_roundw
          case rel => first | exact ⟨j + 1, setB bs p, by omega, by go_num, hm3, HH.out.2.2, hkw⟩ | ((repeat apply Exists.intro); exact ⟨⟨j + 1, setB bs p, by omega, by go_num, hm3, HH.out.2.2, hkw⟩, rfl⟩)
          case measure => simp [intOf]; omega
        · obtain ⟨bb, off, rfl, hbb, hc⟩ := w1.cell (by omega)
          have hml : j % len1 < len1 := Nat.mod_lt _ (by omega)
          have hcell := hkr.out.cell (hc (j % len1) hml) (fun h => h)
          have hf := i64_wf (w1.wf _ (w1.at_ hml))
          clear hc
          generalize z1.getD (j % len1) 0 = f at *
          go_wp2_with fail
          refine (next_walk _ _ hm2 (by omega) (by omega)).mono ?_
          rintro e wc ⟨rfl, q, rfl⟩
          obtain ⟨p, hp, hv, hno⟩ := HR.out f
          rw [hv]
          obtain ⟨s1, s2, s3⟩ := HS.out p hp hno
          have HH := Lib.hid (And.intro hno (And.intro s1 s2))
          clear hv hno s1 s2
          go_wp2_with fail
          refine (has_any _ _ (hm2.drewN _) (by omega) (by omega)).mono ?_
          rintro e wc ⟨rfl, rfl⟩
          rw [HH.out.1]
          go_wp2_with fail
          refine (set_yes p _ (hm2.drewN _) hp HH.out.1).mono ?_
          rintro e wd ⟨rfl, hm3, hk3⟩
          go_wp2_with fail
          refine (has_any _ _ hm3 (by omega) (by omega)).mono ?_
          rintro e wc ⟨rfl, rfl⟩
          rw [HH.out.2.1]
          go_wp2_with fail
          refine (count_walk _ hm3).mono ?_
          rintro e wc ⟨rfl, rfl⟩
          rw [HH.out.2.2]
          go_wp2_with fail
          refine (front_walk _ hm3).mono ?_
          rintro e wc ⟨rfl, rfl⟩
          generalize frontI n (setB bs p) = ff at *
          have hbb2 := HG.out.2
          have hkw := (hkr.out.drewN q).step hk3 (fun i hi => .inr (by rw [show i = b from hi]; have := hkw0.size; omega))
          go_wp2_with fail
          go_roundw
          case rel => first | exact ⟨j + 1, setB bs p, by omega, by go_num, hm3, HH.out.2.2, hkw⟩ | ((repeat apply Exists.intro); exact ⟨⟨j + 1, setB bs p, by omega, by go_num, hm3, HH.out.2.2, hkw⟩, rfl⟩)
          case measure => simp [intOf]; omega
      · obtain rfl : j = n := by omega
        have n0 := nextI_all hcnt.out 0
        have f0 := frontI_all hcnt.out
        have h0 : hasI j bs j = false := by simp [hasI]
        have HN := Lib.hid (And.intro n0 (And.intro f0 h0))
        clear n0 f0 h0
        go_wp2_with fail
        refine (next_walk _ _ hm2 (by omega) (by omega)).mono ?_
        rintro e wc ⟨rfl, q, rfl⟩
        rw [HN.out.1]
        go_wp2_with fail
        refine (front_walk _ (hm2.drewN _)).mono ?_
        rintro e wc ⟨rfl, rfl⟩
        rw [HN.out.2.1]
        go_wp2_with fail
        refine (set_no _ _ (hm2.drewN _) (by omega) (by omega) (.inr (.inl (by omega)))).mono ?_
        rintro e wc ⟨rfl, rfl⟩
        go_wp2_with fail
        refine (set_no _ _ (hm2.drewN _) (by omega) (by omega) (.inl (by omega))).mono ?_
        rintro e wc ⟨rfl, rfl⟩
        go_wp2_with fail
        refine (has_any _ _ (hm2.drewN _) (by omega) (by omega)).mono ?_
        rintro e wc ⟨rfl, rfl⟩
        rw [HN.out.2.2]
        go_wp2_with fail
        go_ret
        exact ⟨rfl, hkr.out.drewN _⟩
end Go.Proofs.Ytokminiendnhoaa
