/-
  The document's disk: Read, Image.
-/
import Derived.Test.YtkefbgkdkmkghaaDoorRefDisk
import Derived.Deep.RegionHeld3
namespace Go.Proofs.YtkefbgkdkmkghaaDoor
set_option linter.unusedSimpArgs false
set_option linter.unusedVariables false
open Go.RowKit

/-- What the document's Read hands out. -/
def RReadP (w : World) (E : Option Nat) (b : List Int) (e : Ending) (w' : World) : Prop :=
  ∃ a n cap, e = .returned (.tuple #[.slice a n cap, .int .i64 (codeO E)]) ∧ Own w' 5 1 a cap n (byteV b) ∧ b.length = n ∧ Keeps Nil w w' ∧ (∀ k, blkOf a k → w.heap.size ≤ k)
set_option maxRecDepth 20000 in
set_option maxHeartbeats 800000 in
theorem refread_walk {w : World} {p : Nat} {R : Roles} {d : Dk} (h : IsRef w p R d) {m : Nat} (hok : d.Ok m) (hm9 : m ≤ 1000000) (i : Int) :
    Calls Tryd.prog 32 #[.pointer (some ⟨p, 0, none⟩), .int .i64 i] w (RReadP w (d.readE i) (d.readV i)) := by
  obtain ⟨a, cap, tab, hA⟩ := h
  have c2 := hA.obj.cell 2 rfl
  have c0 := hA.obj.cell 0 rfl
  by_cases ho : d.off = true
  · have he : d.readE i = some 0 := by unfold Dk.readE; rw [if_pos ho]
    have hv : d.readV i = [] := by unfold Dk.readV; rw [he, if_neg (by simp)]
    rw [ho] at c2
    rw [he, hv]
    clear hA he hv hok c0
    go_enter Tryd.func32, Tryd.ntmps32
    go_wp2_with fail
    go_ret2
    exact ⟨none, 0, 0, rfl, Own.nil _ _ _, rfl, Keeps.refl _ _, fun k hk => (blkOf_none k hk).elim⟩
  · have ho' : d.off = false := by simpa using ho
    rw [ho'] at c2
    have hvx := hok.size
    by_cases hi : 0 ≤ i ∧ i < d.vs.length
    · obtain ⟨k, rfl⟩ := Int.eq_ofNat_of_zero_le hi.1
      have hk : k < d.vs.length := by omega
      have he : d.readE k = none := by unfold Dk.readE; rw [if_neg ho, if_neg (by omega)]
      have hne := hok.some _ (Dk.at_mem hk)
      have hv : d.readV k = (d.at_ k).getD ((d.at_ k).length - 1) [] := by unfold Dk.readV; rw [he, if_pos rfl]; exact lastV_eq hne
      rw [he, hv]
      obtain ⟨g, ha, t1, _, hgl, hcn, hcx⟩ := hA.tabAt hk
      obtain ⟨gv, ov, cv, hve, hvc, hvm, _, _, hvb⟩ := hA.secs k hk
      have hmm := hok.at_ hk
      have hll := List.length_pos_iff.2 hne
      subst ha
      rw [hve] at t1
      obtain ⟨q, hq⟩ : ∃ q, (d.at_ k).length = q + 1 := ⟨(d.at_ k).length - 1, by omega⟩
      obtain ⟨bv, t2, g1, o1, c1, hbe, hrow, _, _⟩ := hvb q (by omega)
      rw [hbe] at t2
      have hq2 : (q : Int) ≤ 1000000 := by omega
      rw [show (d.at_ k).length - 1 = q by omega]
      generalize hnn : (d.at_ k).length = n at *
      have hk0 : (0 : Int) ≤ k := by omega
      have hk1 : (k : Int) < d.vs.length := by omega
      have HRW := Lib.hid hrow
      have HL8 := Lib.hid hrow.llen
      have hq0 : (0 : Int) ≤ q := by omega
      have hqn : (q : Int) < n := by omega
      have hnx : (n : Int) ≤ 1000001 := by omega
      have hwp : IntKind.i64.wrap ((n : Int) - 1) = (q : Int) := by rw [show (n : Int) - 1 = (q : Int) by omega]; exact IntWalk.i64_in _ (by omega)
      clear hA he hv hok ho hne hi hve hvb hbe hmm hll hrow hq hnn
      generalize hvn : d.vs.length = vn at *
      clear hvn
      generalize (d.at_ k).getD q [] = B at *
      go_enter Tryd.func32, Tryd.ntmps32
      go_wp2_with fail
      go_region_held3 (fun w' => w'.cell? ⟨p, 0, none⟩ = some (.slice (some ⟨g, 0, none⟩) vn cap) ∧ w'.cell? ⟨g, k, none⟩ = some (.slice (some ⟨gv, ov, none⟩) n cv) ∧ w'.cell? ⟨gv, ov + q, none⟩ = some (.slice (some ⟨g1, o1, none⟩) 128 c1)) (first | exact ⟨c0, t1, t2⟩ | exact ⟨hk2.cell c0 (fun h => h), hk2.cell t1 (fun h => h), hk2.cell t2 (fun h => h)⟩ | go_keep) (first | (go_at_call 23; refine (refBytes_walk (cap := c1) (HRW.out.keep ((Keeps.refl Nil w).drew)) (by omega)).mono ?_; rintro e w2 ⟨a2, cap2, rfl, ho2, hk2, hf2⟩))
      have HF := Lib.hid (And.intro ho2 (And.intro ((Keeps.refl Nil w).drew.trans hk2) hf2))
      clear ho2 hk2 hf2
      go_wp2_with fail
      go_ret2
      exact ⟨a2, B.length, cap2, rfl, HF.out.1, rfl, HF.out.2.1, fun k hk => HF.out.2.2 k hk⟩
    · have he : d.readE i = some 1 := by unfold Dk.readE; rw [if_neg ho, if_pos (by omega)]
      have hv : d.readV i = [] := by unfold Dk.readV; rw [he, if_neg (by simp)]
      rw [he, hv]
      clear hA he hv hok
      generalize hvn : d.vs.length = vn at *
      clear hvn
      have key : i < 0 ∨ (¬ i < 0 ∧ (vn : Int) ≤ i) := by omega
      clear hi
      rcases key with h1 | ⟨h1, h2⟩
      all_goals
        go_enter Tryd.func32, Tryd.ntmps32
        go_wp2_with fail
        go_ret2
        exact ⟨none, 0, 0, rfl, Own.nil _ _ _, rfl, Keeps.refl _ _, fun k hk => (blkOf_none k hk).elim⟩
set_option maxRecDepth 20000 in
set_option maxHeartbeats 800000 in
theorem refimage_walk {w : World} {p : Nat} {R : Roles} {d : Dk} (h : IsRef w p R d) {m : Nat} (hok : d.Ok m) :
    Calls Tryd.prog 33 #[.pointer (some ⟨p, 0, none⟩)] w fun e w' => FreshB w w' d.image e := by
  obtain ⟨a, cap, tab, hA⟩ := h
  have c0 := hA.obj.cell 0 rfl
  have HD := Lib.hid hA
  have HOK := Lib.hid hok
  have hvx := hok.size
  clear hA hok
  generalize hvn : d.vs.length = vn at *
  have HVN := Lib.hid hvn
  clear hvn
  go_enter Tryd.func33, Tryd.ntmps33
  go_wp2_with fail
  go_loopw [3, 4] (fun o x wr => ∃ (j : Nat) (ao : Option Addr) (co no : Nat), o = .slice ao no co ∧ x = .int .i64 j ∧ j ≤ vn ∧ Hid (no = 128 * j) ∧ Hid (Own wr 5 1 ao co no (byteV (imgTo d.vs j))) ∧ Hid (Keeps Nil w wr) ∧ Hid (∀ k, blkOf ao k → w.heap.size ≤ k)) (fun _ x _ => vn - (intOf x).toNat)
  case atStart => exact ⟨0, none, 0, 0, rfl, rfl, Nat.zero_le _, Lib.hid rfl, Lib.hid (by rw [imgTo_zero]; exact Own.nil _ _ _), Lib.hid (Keeps.refl _ _), Lib.hid (fun k hk => (blkOf_none k hk).elim)⟩
  case round =>
    obtain ⟨j, ao, co, no, rfl, rfl, hj, hno, hO, hkj, hf⟩ := hrel
    have hc0 := hkj.out.cell c0 (fun h => h)
    by_cases hjn : j < vn
    · have hno3 : no + 128 ≤ 1000000000 := by have := HOK.out.size; have := HVN.out; have := hno.out; omega
      have hdj := HD.out.keep0 hkj.out
      obtain ⟨g, ha, t1, _, hgl, hcn, hcx⟩ := hdj.tabAt (i := j) (by rw [HVN.out]; exact hjn)
      obtain ⟨gv, ov, cv, hve, hvc, hvm, _, _, hvb⟩ := hdj.secs j (by rw [HVN.out]; exact hjn)
      have hL0 := HOK.out.pos (i := j) (by rw [HVN.out]; exact hjn)
      have hLm : ((d.at_ j).length : Int) ≤ 9223372036854775807 := by omega
      have hsucc := imgTo_succ (vs := d.vs) (j := j) (by rw [HVN.out]; exact hjn)
      rw [HVN.out] at hcn
      subst ha
      rw [hve] at t1
      obtain ⟨bv, t2, g1, o1, cc, hbe, hrow, _, _⟩ := hvb 0 hL0
      rw [hbe, Nat.add_zero] at t2
      have hat : (d.at_ j).getD 0 [] = (d.vs.getD j []).getD 0 [] := rfl
      rw [hat] at hrow
      generalize (d.vs.getD j []).getD 0 [] = b at *
      have HSC := Lib.hid hsucc
      generalize (d.at_ j).length = ln at *
      have hln : (0 : Int) < ln := by omega
      have hj0 : (0 : Int) ≤ j := by omega
      have hj1 : (j : Int) < vn := by omega
      have hsrc := hrow.src (cap := cc) (fun h => by cases h)
      have HO := Lib.hid (And.intro hO.out hsrc)
      clear hdj hat hve hvb hbe hsucc hrow hsrc hL0
      go_wp2_with (at_builtin; go_must (refine wpl_append rfl _ _ 25 rfl 5 1 1 Tryd.underlying25 Tryd.info8s (by omega) ao co no _ rfl HO.out.1 (some ⟨g1, o1, none⟩) 128 cc (byteV b) rfl HO.out.2 (by unfold maxLen; omega) (by omega) ?_))
      intro a5 c5 w5 hO5 hk5 hf5 _
      have hf6 : ∀ k, blkOf a5 k → w.heap.size ≤ k := fun k hk => by
        rcases hf5 k hk with h1 | h1
        · exact hf.out k h1
        · have := hkj.out.size; omega
      have HX := Lib.hid (And.intro (show Own w5 5 1 a5 c5 (no + 128) (byteV (imgTo d.vs (j + 1))) by rw [HSC.out, byteV_append]; exact hO5) (And.intro (hkj.out.step hk5 (fun k hk => .inr (hf.out k hk))) hf6))
      clear hO5 hk5 hf5 hf6
      go_wp2_with fail
      exact ⟨⟨j + 1, a5, c5, no + 128, rfl, by go_num, by omega, Lib.hid (by have := hno.out; omega), Lib.hid HX.out.1, Lib.hid HX.out.2.1, Lib.hid HX.out.2.2⟩, by first | (simp [intOf]; done) | (simp [intOf]; omega)⟩
    · obtain rfl : j = vn := by omega
      have hl := HOK.out.image_len
      have hall : imgTo d.vs j = d.image := by rw [← HVN.out, imgTo_all]; rfl
      have hln : no = d.image.length := by rw [hl, HVN.out]; exact hno.out
      have HF := Lib.hid (And.intro hall (And.intro hln (And.intro hO.out (And.intro hkj.out hf.out))))
      have hjj : ¬ ((j : Int) < j) := by omega
      clear hl hall hln hO hkj hf hno
      go_wp2_with fail
      go_ret
      have hn := HF.out.2.1
      have ho := HF.out.2.2.1
      rw [HF.out.1] at ho
      subst hn
      exact ⟨ao, co, rfl, ho, HF.out.2.2.2.1, HF.out.2.2.2.2⟩
end Go.Proofs.YtkefbgkdkmkghaaDoor
