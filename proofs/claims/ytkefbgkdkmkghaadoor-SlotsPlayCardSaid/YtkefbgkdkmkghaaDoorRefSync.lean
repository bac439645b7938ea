/-
  The document's disk: Sync.
-/
import Derived.Test.YtkefbgkdkmkghaaDoorRefNew
import Derived.BigRegion
namespace Go.Proofs.YtkefbgkdkmkghaaDoor
set_option linter.unusedSimpArgs false
set_option linter.unusedVariables false
open Go.RowKit

/-- One sector's versions are others. -/
theorem RefAt.step {w w' : World} {p : Nat} {R R' : Roles} {d : Dk} {g cap : Nat} {tab : List Value} (h : RefAt w p R d (some ⟨g, 0, none⟩) cap tab) {i : Nat} (hi : i < d.vs.length) {S : Nat → Prop} (hk : Keeps S w w') (hS : ∀ k, S k → R k = 3 ∨ w.heap.size ≤ k) (hR : ∀ k, k < w.heap.size → R' k = R k) (hlt : ∀ k, R' k ≠ 0 → k < w'.heap.size)
    {v : Value} {l : List (List Int)} (ho : Own w' 83 1 (some ⟨g, 0, none⟩) cap d.vs.length (tab.set i v)) (hv : RVal w' R' v l) : RefAt w' p R' { d with vs := d.vs.set i l } (some ⟨g, 0, none⟩) cap (tab.set i v) := by
  have hp := h.obj.lt
  have hl := h.own.1
  refine ⟨hlt, by rw [hR p hp]; exact h.me, ?_, by rw [List.length_set]; exact ho, fun k hk' => by rw [hR k (h.own.lt k hk')]; exact h.role k hk', fun j hj => ?_⟩
  · rw [List.length_set]
    exact h.obj.keep hk (fun e => by rcases hS p e with h1 | h1
                                     · rw [h.me] at h1; omega
                                     · omega)
  · rw [List.length_set] at hj
    by_cases hij : i = j
    · subst hij
      have e1 : (tab.set i v).getD i undef = v := by simp [List.getD, show i < tab.length by omega]
      have e2 : Dk.at_ { d with vs := d.vs.set i l } i = l := by simp [Dk.at_, List.getD, hj]
      rw [e1, e2]
      exact hv
    · have e1 : (tab.set i v).getD j undef = tab.getD j undef := by simp [List.getD, List.getElem?_set, hij]
      have e2 : Dk.at_ { d with vs := d.vs.set i l } j = d.at_ j := by simp [Dk.at_, List.getD, List.getElem?_set, hij]
      rw [e1, e2]
      obtain ⟨gv, ov, cv, he, h1, h2, h3, h4, hc⟩ := h.secs j hj
      exact RVal.keep (S := fun k => S k ∧ R k ≠ 1 ∨ w.heap.size ≤ k) ⟨gv, ov, cv, he, h1, h2, h3, h4, hc⟩ ⟨hk.os, hk.tape, hk.output, hk.size, fun k hkk hn => hk.block k hkk (fun e => hn (.inl ⟨e, by rcases hS k e with h5 | h5 <;> omega⟩))⟩ (fun k h1 e => by
        rcases e with ⟨_, h2⟩ | h2
        · exact h2 h1
        · have := h.lt k (by rw [h1]; decide); omega) hR
/-- A part of a sector's versions: the same block. -/
theorem RVal.sub {w : World} {R : Roles} {g o c : Nat} {l : List (List Int)} {k m : Nat} (h1 : l.length ≤ c) (h2 : c ≤ 9223372036854775807) (h3 : R g = 1) (h4 : g < w.heap.size) (hc : ∀ j, j < l.length → ∃ bv, w.cell? ⟨g, o + j, none⟩ = some bv ∧ BVal w R bv (l.getD j [])) (hk : k < l.length) (hm : m = c - k) :
    RVal w R (.slice (some ⟨g, o + k, none⟩) 1 m) [l.getD k []] := by
  subst hm
  refine ⟨g, o + k, c - k, rfl, by simp only [List.length_singleton]; omega, by omega, h3, h4, fun j hj => ?_⟩
  simp only [List.length_singleton] at hj
  obtain rfl : j = 0 := by omega
  exact hc k hk
set_option maxRecDepth 20000 in
set_option maxHeartbeats 1600000 in
theorem refsync_walk {w : World} {p : Nat} {R : Roles} {d : Dk} (h : IsRef w p R d) {m : Nat} (hok : d.Ok m) (hm9 : m ≤ 1000000) :
    Calls Tryd.prog 28 #[.pointer (some ⟨p, 0, none⟩)] w fun e w' => e = .returned (.int .i64 (codeO d.sync.2)) ∧ IsRef w' p R d.sync.1 ∧ Keeps (Wr R) w w' := by
  have HH := Lib.hid h
  obtain ⟨a, cap, tab, hA⟩ := h
  have c2 := hA.obj.cell 2 rfl
  by_cases ho : d.off = true
  · have hs : d.sync = (d, some 0) := by unfold Dk.sync; rw [if_pos ho]
    rw [ho] at c2
    rw [hs]
    clear hA hok hs
    go_enter Tryd.func28, Tryd.ntmps28
    go_wp2_with fail
    go_ret
    exact ⟨rfl, HH.out, Keeps.refl _ _⟩
  · have ho' : d.off = false := by simpa using ho
    rw [ho'] at c2
    have HB := Lib.hid (refburn_walk HH.out ho' hok.left)
    have HOK := Lib.hid hok
    by_cases hg : d.goes.off = true
    · have hs : d.sync = (d.goes, some 0) := by unfold Dk.sync; rw [if_neg ho, if_pos hg]
      rw [hs]
      rw [hg] at HB
      clear hA hok hs hg ho ho' HH
      go_enter Tryd.func28, Tryd.ntmps28
      go_wp2_with fail
      refine HB.out.mono ?_
      rintro e w1 ⟨rfl, hD, hk⟩
      have HF := Lib.hid (And.intro hD hk)
      clear hD hk
      go_wp2_with fail
      go_ret
      exact ⟨rfl, HF.out⟩
    · have hgf : d.goes.off = false := by simpa using hg
      have hs : d.sync = (d.goes.settle, none) := by unfold Dk.sync; rw [if_neg ho, if_neg hg]
      rw [hs]
      rw [hgf] at HB
      have HOK1 := Lib.hid (HOK.out.goes)
      clear hA hok hs hg hgf ho ho' HH
      generalize d.goes = d1 at *
      go_enter Tryd.func28, Tryd.ntmps28
      go_wp2_with fail
      refine HB.out.mono ?_
      rintro e w1 ⟨rfl, ⟨a1, cap1, tab1, hD⟩, hk⟩
      have HD := Lib.hid hD
      have HK := Lib.hid hk
      have c01 := hD.obj.cell 0 rfl
      have hvx := HOK1.out.size
      clear hD hk c2
      generalize hvn : d1.vs.length = vn at *
      have HVN := Lib.hid hvn
      clear hvn
      go_wp2_with fail
      go_loopw [3] (fun x wr => ∃ (j : Nat) (tab' : List Value), x = .int .i64 j ∧ j ≤ vn ∧ Hid (RefAt wr p R { d1 with vs := settleTo d1.vs j } a1 cap1 tab') ∧ Hid (Keeps (Wr R) w wr)) (fun x _ => vn - (intOf x).toNat)
      case atStart => exact ⟨0, tab1, rfl, Nat.zero_le _, Lib.hid (by rw [settleTo_zero]; exact HD.out), HK⟩
      case round =>
        obtain ⟨j, tab', rfl, hj, hdj, hkj⟩ := hrel
        have hlen : (Dk.mk (settleTo d1.vs j) d1.left d1.off).vs.length = vn := by show (settleTo d1.vs j).length = vn; rw [settleTo_len, HVN.out]
        have hc0 := hdj.out.obj.cell 0 rfl
        rw [hlen] at hc0
        have HLEN := Lib.hid hlen
        clear c01 hlen
        by_cases hjn : j < vn
        · have hjl : j < (Dk.mk (settleTo d1.vs j) d1.left d1.off).vs.length := by rw [HLEN.out]; exact hjn
          have hat : Dk.at_ { d1 with vs := settleTo d1.vs j } j = d1.at_ j := settleTo_at (by rw [HVN.out]; exact hjn)
          obtain ⟨g, ha, t1, z1, hgl, hcn, hcx⟩ := hdj.out.tabAt hjl
          rw [HLEN.out] at hcn
          obtain ⟨gv, ov, cv, hve, hvc, hvm, hvr, hvl, hvb⟩ := hdj.out.secs j hjl
          rw [hat] at hve hvc hvb
          subst ha
          rw [hve] at t1
          have hne := HOK1.out.some _ (Dk.at_mem (i := j) (by rw [HVN.out]; exact hjn))
          have hmm := HOK1.out.at_ (i := j) (by rw [HVN.out]; exact hjn)
          obtain ⟨q, hq⟩ : ∃ q, (d1.at_ j).length = q + 1 := ⟨(d1.at_ j).length - 1, by have := List.length_pos_iff.2 hne; omega⟩
          have hlast : lastV (d1.at_ j) = (d1.at_ j).getD q [] := by rw [lastV_eq hne, hq]; rfl
          have hsub := RVal.sub (k := q) hvc hvm hvr hvl hvb (by omega) rfl
          rw [← hlast] at hsub
          have hko : Keeps (One g) wr (wr.setCell ⟨g, j, none⟩ (.slice (some ⟨gv, ov + q, none⟩) 1 (cv - q))) := (Keeps.refl _ _).setOne _ _
          have hgR : R g = 3 := hdj.out.role g ((blkOf_some _ _ _ _).2 rfl)
          have htl := hdj.out.own.1
          have hst := hdj.out.step hjl hko (fun k hk => .inl (by rw [show k = g from hk]; exact hgR)) (fun _ _ => rfl) (fun k hk => Nat.lt_of_lt_of_le (hdj.out.lt k hk) hko.size) (hdj.out.own.setCell j (by omega) _) (hsub.keep hko (fun k h1 e => by rw [show k = g from e, hgR] at h1; omega) (fun _ _ => rfl))
          have hsucc := settleTo_succ (vs := d1.vs) (j := j) (by rw [HVN.out]; exact hjn)
          have HN := Lib.hid (And.intro hst (And.intro (hkj.out.trans (hko.mono (fun k hk => by unfold Wr; rw [show k = g from hk, hgR]; omega))) hsucc))
          rw [hq] at t1 hvc hmm
          have hq2 : (q : Int) ≤ 1000000 := by omega
          have hq0 : (0 : Int) ≤ q := by omega
          have hj0 : (0 : Int) ≤ j := by omega
          have hj1 : (j : Int) < vn := by omega
          have hcq : ¬ cv = q := by omega
          have hwp : IntKind.i64.wrap (((q + 1 : Nat) : Int) - 1) = (q : Int) := by rw [show ((q + 1 : Nat) : Int) - 1 = (q : Int) by omega]; exact IntWalk.i64_in _ (by omega)
          clear hve hvb hne hq hlast hsub hko htl hst hsucc hat hjl
          go_wp2_with fail
          go_region
          have HN2 : Hid (RefAt (wr.setCell ⟨g, j, none⟩ (.slice (some ⟨gv, ov + q, none⟩) 1 (cv - q))).drew p R { d1 with vs := settleTo d1.vs (j + 1) } (some ⟨g, 0, none⟩) cap1 (tab'.set j (.slice (some ⟨gv, ov + q, none⟩) 1 (cv - q))) ∧ Keeps (Wr R) w (wr.setCell ⟨g, j, none⟩ (.slice (some ⟨gv, ov + q, none⟩) 1 (cv - q))).drew) :=
            Lib.hid ⟨by rw [HN.out.2.2]; exact HN.out.1.keep0 (Keeps.refl Nil _).drew, HN.out.2.1.drew⟩
          clear HN t1 z1 hwp hc0
          generalize (wr.setCell ⟨g, j, none⟩ (.slice (some ⟨gv, ov + q, none⟩) 1 (cv - q))).drew = wn at *
          go_wp2_with fail
          first
            | exact ⟨⟨j + 1, _, by go_num, by omega, Lib.hid HN2.out.1, Lib.hid HN2.out.2⟩, by first | (simp [intOf]; done) | (simp [intOf]; omega)⟩
            | (go_roundw
               case rel => first | exact ⟨j + 1, _, by go_num, by omega, Lib.hid HN2.out.1, Lib.hid HN2.out.2⟩ | ((repeat apply Exists.intro); exact ⟨⟨j + 1, _, by go_num, by omega, Lib.hid HN2.out.1, Lib.hid HN2.out.2⟩, rfl⟩)
               case measure => first | (simp [intOf]; done) | (simp [intOf]; omega))
        · have hjj : ¬ ((j : Int) < vn) := by omega
          have hall : ({ d1 with vs := settleTo d1.vs j } : Dk) = d1.settle := by
            obtain rfl : j = vn := by omega
            unfold Dk.settle; rw [← HVN.out, settleTo_all]
          have HF := Lib.hid (And.intro (hall ▸ hdj.out.is) hkj.out)
          clear hall hdj hkj
          go_wp2_with fail
          go_ret
          exact ⟨rfl, HF.out⟩
end Go.Proofs.YtkefbgkdkmkghaaDoor
