/-
  The law BitsNext's walk.
-/
import Derived.Test.YtokminiendnhoaaBitsLaw
namespace Go.Proofs.Ytokminiendnhoaa
open Go.RowKit

set_option maxRecDepth 100000 in
set_option maxHeartbeats 2000000 in
theorem bitsNext_walk (a0 : Int) (a1 : Option Addr) (len1 cap1 : Nat) (z1 : List Int) (a2 : Int) (w : World) (w0 : (Lit.int .i64 a0).wf = true) (w1 : Row .i64 w a1 len1 z1) (w2 : (Lit.int .i64 a2).wf = true) :
    Calls Try.prog 4 #[.int .i64 a0, .slice a1 len1 cap1, .int .i64 a2] w (True_ w) := by
  have hr0 := i64_wf w0
  have hr2 := i64_wf w2
  have hmost := w1.most
  have hn0 : 0 ≤ a0 % 30 := Int.emod_nonneg _ (by omega)
  have hn1 : a0 % 30 < 30 := Int.emod_lt_of_pos _ (by omega)
  go_enter Try.func4, Try.ntmps4
  go_wp2_with fail
  refine (bitsfirst_walk _).mono ?_
  rintro e wa ⟨rfl, hka⟩
  by_cases hlen : 60 < len1
  · go_wp2_with fail
    go_ret
    exact ⟨rfl, hka⟩
  · go_wp2_with fail
    refine (number_walk a0 30 _ (by omega) (by omega) (by omega) (by omega)).mono ?_
    rintro e wa ⟨rfl, rfl⟩
    generalize a0 % 30 = nn at *
    obtain ⟨n0, rfl⟩ := Int.eq_ofNat_of_zero_le hn0
    obtain ⟨n, hn, hn2, hn3⟩ : ∃ n : Nat, (n0 : Int) + 1 = n ∧ 1 ≤ n ∧ n ≤ 30 := ⟨n0 + 1, by omega, by omega, by omega⟩
    have HN0 := Lib.hid hn
    clear hn
    go_wp2_with fail
    rw [HN0.out]
    have hcap : capN n = n := by unfold capN; omega
    refine (new_walk _ _).mono ?_
    rw [hcap]
    clear hcap
    rintro e wb ⟨g, b, rfl, hm, hkb, hg, hb⟩
    clear HN0 hn0 hn1
    go_wp2_with fail
    have hk1 : Keeps Nil w wb := hka.trans hkb
    have hbw : w.heap.size ≤ b := Nat.le_trans hka.size hb
    clear hkb hka hg hb
    go_loopw [9] (fun i wr => ∃ (j : Nat) (bs : List Int), j ≤ len1 ∧ i = .int .i64 j ∧ IsMap wr g b n bs ∧ Hid (Keeps Nil w wr)) (fun i _ => len1 - (intOf i).toNat)
    case atStart => exact ⟨0, _, Nat.zero_le _, rfl, hm, hk1⟩
    case round =>
      obtain ⟨j, bs, hj, rfl, hm2, hkr⟩ := hrel
      clear hm hk1
      by_cases hlt : j < len1
      · obtain ⟨bb, off, rfl, hbb, hc⟩ := w1.cell (by omega)
        have hcell := hkr.out.cell (hc j hlt) (fun h => h)
        have hf := i64_wf (w1.wf _ (w1.at_ hlt))
        clear hc
        generalize z1.getD j 0 = f at *
        go_wp2_with fail
        refine (number_walk f n _ (by omega) (by omega) (by omega) (by omega)).mono ?_
        rintro e wc ⟨rfl, rfl⟩
        have hb0 : 0 ≤ f % n := Int.emod_nonneg _ (by omega)
        have hb1 : f % n < n := Int.emod_lt_of_pos _ (by omega)
        generalize f % n = f2 at *
        go_wp2_with fail
        refine (set_any f2 _ hm2 (by omega) (by omega)).mono ?_
        rintro e wd ⟨r, bs', rfl, hm3, hk3⟩
        have hkw := hkr.out.step hk3 (fun i hi => .inr (by rw [show i = b from hi]; exact hbw))
        go_wp2_with fail
        go_roundw
        case rel => first | exact ⟨j + 1, bs', by omega, by go_num, hm3, hkw⟩ | ((repeat apply Exists.intro); exact ⟨⟨j + 1, bs', by omega, by go_num, hm3, hkw⟩, rfl⟩)
        case measure => simp [intOf]; omega
      · obtain rfl : j = len1 := by omega
        go_wp2_with fail
        refine (number_walk a2 (3 * (n : Int)) _ (by omega) (by omega) (by omega) (by omega)).mono ?_
        rintro e wc ⟨rfl, rfl⟩
        have hb0 : 0 ≤ a2 % (3 * (n : Int)) := Int.emod_nonneg _ (by omega)
        have hb1 : a2 % (3 * (n : Int)) < 3 * n := Int.emod_lt_of_pos _ (by omega)
        generalize a2 % (3 * (n : Int)) = f at *
        have hcl := countI_le n bs
        by_cases hall : countI n bs = n
        · have n0 := nextI_all hall f
          have n1 := nextI_all hall (-f)
          have HN := Lib.hid (And.intro n0 (And.intro n1 hall))
          clear n0 n1 hall
          go_wp2_with fail
          refine (next_walk f _ hm2 (by omega) (by omega)).mono ?_
          rintro e wd ⟨rfl, q, rfl⟩
          rw [HN.out.1]
          go_wp2_with fail
          refine (count_walk _ (hm2.drewN _)).mono ?_
          rintro e wd ⟨rfl, rfl⟩
          rw [HN.out.2.2]
          go_wp2_with fail
          refine (next_walk (-f) _ (hm2.drewN _) (by omega) (by omega)).mono ?_
          rintro e wd ⟨rfl, q2, rfl⟩
          rw [HN.out.2.1]
          go_wp2_with fail
          go_ret
          exact ⟨rfl, hkr.out.drewN _⟩
        · have hcn : countI n bs < n := by omega
          have hce : (((countI n bs : Nat) : Int) == (n : Int)) = false := by simp; omega
          obtain ⟨t, ht, hv, hno, hbef⟩ := nextI_some hcn f
          have hrt := placeOf_rng n f t (by omega)
          have n0 := nextI_neg (n := n) (bs := bs) (f := -1 - f) (by omega)
          have n1 := nextI_front hcn
          have HN := Lib.hid (And.intro n0 (And.intro n1 (And.intro hno hbef)))
          have HV := Lib.hid hv
          clear n0 n1 hv hno hbef
          clear hall
          go_wp2_with fail
          refine (next_walk f _ hm2 (by omega) (by omega)).mono ?_
          rintro e wd ⟨rfl, q, rfl⟩
          rw [HV.out]
          go_wp2_with fail
          refine (count_walk _ (hm2.drewN _)).mono ?_
          rintro e wd ⟨rfl, rfl⟩
          have HT : Hid (f % (n : Int) = placeOf n f 0) := (placeOf_first hb0).symm
          generalize hp : placeOf n f t = p at *
          have HP := Lib.hid hp
          clear hp
          go_wp2_with fail
          refine (has_any _ _ (hm2.drewN _) (by omega) (by omega)).mono ?_
          rintro e wd ⟨rfl, rfl⟩
          rw [HN.out.2.2.1]
          go_wp2_with fail
          rw [HT.out]
          go_loop [11] (fun i => ∃ s : Nat, s ≤ t ∧ i = .int .i64 (placeOf n f s)) (fun i => ((p - intOf i) % n).toNat)
          case atStart => exact ⟨0, Nat.zero_le _, rfl⟩
          case round =>
            obtain ⟨s, hs, rfl⟩ := hrel
            have hr := placeOf_rng n f s (by omega)
            by_cases hst : s = t
            · subst hst
              rw [HP.out]
              go_wp2_with fail
              refine (next_walk _ _ (hm2.drewN _) (by omega) (by omega)).mono ?_
              rintro e wd ⟨rfl, q2, rfl⟩
              rw [HN.out.1, HN.out.2.1]
              go_wp2_with fail
              refine (next_walk _ _ (hm2.drewN _) (by omega) (by omega)).mono ?_
              rintro e wd ⟨rfl, q3, rfl⟩
              rw [HN.out.2.1]
              go_wp2_with fail
              refine (next_walk _ _ (hm2.drewN _) (by omega) (by omega)).mono ?_
              rintro e wd ⟨rfl, q4, rfl⟩
              rw [HN.out.2.1]
              go_wp2_with fail
              refine (front_walk _ (hm2.drewN _)).mono ?_
              rintro e wd ⟨rfl, rfl⟩
              go_wp2_with fail
              go_ret
              exact ⟨rfl, hkr.out.drewN _⟩
            · have hyes := HN.out.2.2.2 s (by omega)
              have hne : (placeOf n f s != p) = true := by
                rw [bne_iff_ne]
                intro e
                have := HN.out.2.2.1
                rw [← e, hyes] at this
                cases this
              have hnx := placeOf_next n f s
              have hd1 := placeOf_dist (f := f) hs ht
              have hd2 := placeOf_dist (n := n) (f := f) (s := s + 1) (t := t) (by omega) ht
              rw [HP.out] at hd1 hd2
              have hrn := placeOf_rng n f (s + 1) (by omega)
              have HY := Lib.hid (And.intro hyes (And.intro hnx (And.intro hd1 hd2)))
              clear hyes hnx hd1 hd2
              generalize hps1 : placeOf n f (s + 1) = ps1 at *
              have HPS1 := Lib.hid hps1
              clear hps1
              generalize hps : placeOf n f s = ps at *
              have HPS := Lib.hid hps
              clear hps
              go_wp2_with fail
              refine (has_any ps _ (hm2.drewN _) (by omega) (by omega)).mono ?_
              rintro e wd ⟨rfl, rfl⟩
              rw [HY.out.1]
              go_wp2_with fail
              rw [HY.out.2.1]
              go_round
              case rel => exact ⟨s + 1, by omega, by rw [HPS1.out]⟩
              case measure =>
                have h1 := HY.out.2.2.1
                have h2 := HY.out.2.2.2
                simp [intOf]
                omega
end Go.Proofs.Ytokminiendnhoaa
