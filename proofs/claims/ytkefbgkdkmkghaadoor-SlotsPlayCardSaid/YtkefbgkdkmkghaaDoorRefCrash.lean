/-
  The document's disk: Crash.
-/
import Derived.Test.YtkefbgkdkmkghaaDoorRefWrite
namespace Go.Proofs.YtkefbgkdkmkghaaDoor
set_option linter.unusedSimpArgs false
set_option linter.unusedVariables false
open Go.RowKit

set_option maxRecDepth 20000 in
set_option maxHeartbeats 3200000 in
theorem refcrash_walk {w : World} {p : Nat} {R : Roles} {d : Dk} (h : IsRef w p R d) {m : Nat} (hok : d.Ok m) (hm9 : m ≤ 1000000) {ak : Option Addr} {nk ck : Nat} {ks : List Int} (hks : Row .i64 w ak nk ks) (hkR : 0 < nk → ∀ k, blkOf ak k → R k = 0) :
    Calls Tryd.prog 31 #[.pointer (some ⟨p, 0, none⟩), .slice ak nk ck] w fun e w' => e = .returned (.tuple #[]) ∧ IsRef w' p R (d.crash ks) ∧ Keeps (Wr R) w w' := by
  obtain ⟨a, cap, tab, hA⟩ := h
  have c0 := hA.obj.cell 0 rfl
  have hme : Hid (R p = 2) := Lib.hid hA.me
  have HD := Lib.hid hA
  have HOK := Lib.hid hok
  have HK0 := Lib.hid hks
  have HKR := Lib.hid hkR
  have hnx := hks.most
  have hvx := hok.size
  clear hA hok hks hkR
  generalize hvn : d.vs.length = vn at *
  have HVN := Lib.hid hvn
  clear hvn
  go_enter Tryd.func31, Tryd.ntmps31
  go_wp2_with fail
  go_loopw [4, 5, 6] (fun x y _ wr => ∃ (t j : Nat) (cs : List (List (List Int))) (tab' : List Value), x = .int .i64 t ∧ y = .int .i64 j ∧ j ≤ vn ∧ t ≤ j ∧ Hid (CrashAt d.vs ks j (ks.drop t) cs) ∧ Hid (RefAt wr p R { d with vs := cs } a cap tab') ∧ Hid (Keeps (Wr R) w wr)) (fun _ y _ _ => vn - (intOf y).toNat)
  case atStart => exact ⟨0, 0, d.vs, tab, rfl, rfl, Nat.zero_le _, Nat.le_refl _, Lib.hid (CrashAt.start _ _), HD, Lib.hid (Keeps.refl _ _)⟩
  case round =>
    obtain ⟨t, j, cs, tab', rfl, rfl, hj, htj, hca, hdj, hkj⟩ := hrel
    clear c0
    have hcl : cs.length = vn := by rw [hca.out.len (by rw [HVN.out]; exact hj), HVN.out]
    have c0 := hdj.out.obj.cell 0 rfl
    rw [show (Dk.mk cs d.left d.off).vs.length = vn from hcl] at c0
    by_cases hjn : j < vn
    · have hjl : j < (Dk.mk cs d.left d.off).vs.length := by show j < cs.length; omega
      have hat : Dk.at_ { d with vs := cs } j = d.vs.getD j [] := hca.out.at_ (by rw [HVN.out]; exact hjn)
      have hL0 := HOK.out.pos (i := j) (by rw [HVN.out]; exact hjn)
      have hLm := HOK.out.at_ (i := j) (by rw [HVN.out]; exact hjn)
      have hatd : d.at_ j = d.vs.getD j [] := rfl
      rw [hatd] at hL0 hLm
      obtain ⟨g, ha, t1, z1, hgl, hcn, hcx⟩ := hdj.out.tabAt hjl
      rw [show (Dk.mk cs d.left d.off).vs.length = vn from hcl] at hcn
      obtain ⟨gv, ov, cv, hve, hvc, hvm, hvr, hvl, hvb⟩ := hdj.out.secs j hjl
      rw [hat] at hve hvc hvb
      subst ha
      rw [hve] at t1
      have hj0 : (0 : Int) ≤ j := by omega
      have hj1 : (j : Int) < vn := by omega
      have HST := Lib.hid (fun (l : List (List Int)) (zs' : List Int) (hc : crashL (d.vs.getD j [] :: d.vs.drop (j + 1)) (ks.drop t) = l :: crashL (d.vs.drop (j + 1)) zs') => hca.out.step (by rw [HVN.out]; exact hjn) hc)
      have HSA := Lib.hid (fun (hl : (d.vs.getD j []).length < 2) => hca.out.same (by rw [HVN.out]; exact hjn) hl)
      have HVB := Lib.hid (And.intro hvr (And.intro hvl hvb))
      have HJL := Lib.hid hjl
      clear hjl hat hatd hcl hve hvr hvl hvb
      generalize d.vs.getD j [] = L at *
      generalize d.vs.drop (j + 1) = rest at *
      by_cases h1 : L.length = 1
      · have HC2 := Lib.hid (HSA.out (by omega))
        rw [h1] at t1
        clear h1 hvc
        go_wp2_with fail
        first
          | exact ⟨⟨t, j + 1, cs, tab', rfl, by go_num, by omega, by omega, HC2, hdj, hkj⟩, by first | (simp [intOf]; done) | (simp [intOf]; omega)⟩
          | (go_roundw
             case rel => first | exact ⟨t, j + 1, cs, tab', rfl, by go_num, by omega, by omega, HC2, hdj, hkj⟩ | ((repeat apply Exists.intro); exact ⟨⟨t, j + 1, cs, tab', rfl, by go_num, by omega, by omega, HC2, hdj, hkj⟩, rfl⟩)
             case measure => first | (simp [intOf]; done) | (simp [intOf]; omega))
      · obtain ⟨q, hq⟩ : ∃ q, L.length = q + 2 := ⟨L.length - 2, by omega⟩
        rw [hq] at t1 hvc
        have hq9 : (q : Int) ≤ 1000000 := by omega
        have hq0 : (0 : Int) ≤ q := by omega
        have HQ := Lib.hid hq
        clear hq h1 hLm hL0
        go_upto_if 28 with fail
        generalize hb9 : decide (t < nk) = b9
        generalize decide ((q : Int) + 2 < 2) = b8
        go_cut [6] from 29 to 43 (fun y wx => ∃ nn : Nat, y = .int .i64 nn ∧ Hid (nn < q + 2) ∧ Hid (crashL (L :: rest) (ks.drop t) = [L.getD nn []] :: crashL rest (ks.drop (t + 1))) ∧ Hid (Keeps Nil wr wx))
        case first =>
          cases b9 with
          | false =>
            have htn : ¬ t < nk := of_decide_eq_false hb9
            have hz : ks.drop t = [] := List.drop_eq_nil_of_le (by rw [HK0.out.llen]; omega)
            have hz1 : ks.drop (t + 1) = [] := List.drop_eq_nil_of_le (by rw [HK0.out.llen]; omega)
            have HC := Lib.hid (show crashL (L :: rest) (ks.drop t) = [L.getD 0 []] :: crashL rest (ks.drop (t + 1)) by rw [hz, hz1]; exact crashL_none (by rw [HQ.out]; omega))
            clear hz hz1 htn hb9
            go_wp2_with fail
            go_meet
            exact ⟨0, rfl, Lib.hid (by omega), HC, Lib.hid (Keeps.refl _ _)⟩
          | true =>
            have htn : t < nk := of_decide_eq_true hb9
            clear hb9
            obtain ⟨bk, offk, hak, hbk, hck⟩ := HK0.out.cell (by omega)
            subst hak
            have hRb := HKR.out (by omega) bk ((blkOf_some _ _ _ _).2 rfl)
            have hcz := hkj.out.cell (hck t htn) (fun e => by unfold Wr at e; omega)
            have hzw := i64_wf (HK0.out.wf (ks.getD t 0) (getD_mem3 HK0.out.llen htn))
            have hdz : ks.drop t = ks.getD t 0 :: ks.drop (t + 1) := by
              rw [List.drop_eq_getElem_cons (by rw [HK0.out.llen]; exact htn), List.getD_eq_getElem?_getD, List.getElem?_eq_getElem (by rw [HK0.out.llen]; exact htn)]
              rfl
            generalize ks.getD t 0 = z at *
            have hnn0 : ∃ nn : Nat, keepN z L.length = nn ∧ (z < 0 → nn = 0) ∧ (0 ≤ z → z % ((q : Int) + 2) = nn) ∧ nn < q + 2 := by
              refine ⟨_, rfl, fun h => ?_, fun h => ?_, by have := keepN_lt z (n := L.length) (by rw [HQ.out]; omega); rw [HQ.out] at this ⊢; exact this⟩
              · unfold keepN; rw [show max z 0 = 0 by omega]; simp
              · unfold keepN
                rw [HQ.out, show max z 0 = z by omega]
                obtain ⟨y, rfl⟩ := Int.eq_ofNat_of_zero_le h
                simp only [Int.toNat_natCast]
                rw [show (q : Int) + 2 = ((q + 2 : Nat) : Int) by omega]
                rfl
            obtain ⟨nn, hn1, hn2, hn3, hn4⟩ := hnn0
            have HC := Lib.hid (show crashL (L :: rest) (ks.drop t) = [L.getD nn []] :: crashL rest (ks.drop (t + 1)) by rw [hdz, ← hn1]; exact crashL_some (by rw [HQ.out]; omega))
            have HN4 := Lib.hid hn4
            have ht0 : (0 : Int) ≤ t := by omega
            have ht1 : (t : Int) < nk := by omega
            clear hn1 hn4 hdz hck
            by_cases hz0 : z < 0
            · have hnn := hn2 hz0
              subst hnn
              clear hn2 hn3
              go_wp2_with fail
              go_region
              go_wp2_with fail
              go_meet
              exact ⟨0, rfl, HN4, HC, Lib.hid (Keeps.refl Nil wr).drew⟩
            · have hz1 : 0 ≤ z := by omega
              have hmod := Lib.hid (hn3 hz1)
              clear hn2 hn3
              go_wp2_with fail
              go_region
              rw [hmod.out]
              go_wp2_with fail
              go_meet
              exact ⟨nn, rfl, HN4, HC, Lib.hid (Keeps.refl Nil wr).drew⟩
        case rest =>
        obtain ⟨nn, rfl, hn4, HC, hkx⟩ := hcut
        have HD2 := Lib.hid (hdj.out.keep0 hkx.out)
        have hsub := RVal.sub (w := wc) (R := R) (g := gv) (o := ov) (c := cv) (l := L) (k := nn) (by rw [HQ.out]; exact hvc) hvm HVB.out.1 (Nat.lt_of_lt_of_le HVB.out.2.1 hkx.out.size) (fun i hi => by
          obtain ⟨bv, hb, hv⟩ := HVB.out.2.2 i hi
          exact ⟨bv, hkx.out.cell hb (fun h => h), hv.keep hkx.out (fun _ _ h => h) (fun _ _ => rfl)⟩) (by rw [HQ.out]; exact hn4.out) rfl
        have hko : Keeps (One g) wc (wc.setCell ⟨g, j, none⟩ (.slice (some ⟨gv, ov + nn, none⟩) 1 (cv - nn))) := (Keeps.refl _ _).setOne _ _
        have hgR : R g = 3 := HD2.out.role g ((blkOf_some _ _ _ _).2 rfl)
        have htl := HD2.out.own.1
        have hst := HD2.out.step HJL.out hko (fun k hk => .inl (by rw [show k = g from hk]; exact hgR)) (fun _ _ => rfl) (fun k hk => Nat.lt_of_lt_of_le (HD2.out.lt k hk) hko.size) (HD2.out.own.setCell j (by have := HJL.out; omega) _) (hsub.keep hko (fun k h1 e => by rw [show k = g from e, hgR] at h1; omega) (fun _ _ => rfl))
        have HN := Lib.hid (And.intro hst (And.intro ((hkj.out.trans hkx.out.nil).trans (hko.mono (fun k hk => by unfold Wr; rw [show k = g from hk, hgR]; omega))) (HST.out _ _ HC.out)))
        have t1c := hkx.out.cell t1 (fun h => h)
        have c0c := hkx.out.cell c0 (fun h => h)
        have z1c := HD2.out.own.frozen j
        have hn5 := hn4.out
        have hnI : (nn : Int) ≤ 1000002 := by omega
        have hn0 : (0 : Int) ≤ nn := by omega
        have hnq : (nn : Int) + 1 ≤ (q : Int) + 2 := by omega
        have hnc : ¬ cv = nn := by omega
        have hncI : (nn : Int) + 1 ≤ cv := by omega
        have hcvI : (cv : Int) ≤ 9223372036854775807 := by omega
        have hwp : IntKind.i64.wrap ((nn : Int) + 1) = (nn : Int) + 1 := IntWalk.i64_in _ (by omega)
        have htt : (t : Int) ≤ 400 := by omega
        have ht0 : (0 : Int) ≤ t := by omega
        clear hst hko hsub htl t1 c0 z1 hgR hvc hvm
        go_wp2_with fail
        go_region
        have HN2 : Hid (RefAt (wc.setCell ⟨g, j, none⟩ (.slice (some ⟨gv, ov + nn, none⟩) 1 (cv - nn))).drew p R { d with vs := cs.set j [L.getD nn []] } (some ⟨g, 0, none⟩) cap (tab'.set j (.slice (some ⟨gv, ov + nn, none⟩) 1 (cv - nn))) ∧ Keeps (Wr R) w (wc.setCell ⟨g, j, none⟩ (.slice (some ⟨gv, ov + nn, none⟩) 1 (cv - nn))).drew) :=
          Lib.hid ⟨HN.out.1.keep0 (Keeps.refl Nil _).drew, HN.out.2.1.drew⟩
        have HCA := Lib.hid HN.out.2.2
        clear HN t1c c0c z1c hwp
        generalize (wc.setCell ⟨g, j, none⟩ (.slice (some ⟨gv, ov + nn, none⟩) 1 (cv - nn))).drew = wn at *
        go_wp2_with fail
        first
          | exact ⟨⟨t + 1, j + 1, _, _, by go_num, by go_num, by omega, by omega, HCA, Lib.hid HN2.out.1, Lib.hid HN2.out.2⟩, by first | (simp [intOf]; done) | (simp [intOf]; omega)⟩
          | (go_roundw
             case rel => first | exact ⟨t + 1, j + 1, _, _, by go_num, by go_num, by omega, by omega, HCA, Lib.hid HN2.out.1, Lib.hid HN2.out.2⟩ | ((repeat apply Exists.intro); exact ⟨⟨t + 1, j + 1, _, _, by go_num, by go_num, by omega, by omega, HCA, Lib.hid HN2.out.1, Lib.hid HN2.out.2⟩, rfl⟩)
             case measure => first | (simp [intOf]; done) | (simp [intOf]; omega))
    · have hjj : ¬ ((j : Int) < vn) := by omega
      have hcs : cs = crashL d.vs ks := by
        have h1 := hca.out
        obtain rfl : j = vn := by omega
        rw [← HVN.out] at h1
        exact h1.last
      have c1 := hdj.out.obj.cell 1 rfl
      have c2 := hdj.out.obj.cell 2 rfl
      have z1 := hdj.out.obj.frozen 1
      have z2 := hdj.out.obj.frozen 2
      have hk1 := ((Keeps.refl (One p) wr).setOne 2 (.bool false)).setOne 1 (.int .i64 (-1))
      have hb1 := (hdj.out.obj.set 2 (.bool false)).set 1 (.int .i64 (-1))
      have hd2 := hdj.out.head hk1 hb1
      have hfin : IsRef ((wr.setCell ⟨p, 2, none⟩ (.bool false)).setCell ⟨p, 1, none⟩ (.int .i64 (-1))) p R (d.crash ks) := by
        unfold Dk.crash
        rw [← hcs]
        exact hd2.is
      have HF := Lib.hid (And.intro hfin (hkj.out.trans (hk1.mono (S' := Wr R) (fun x hx => by unfold Wr; rw [show x = p from hx, hme.out]; exact Nat.le_refl _))))
      clear hk1 hb1 hd2 hfin hcs hca hdj
      go_wp2_with fail
      go_end0
      exact ⟨rfl, HF.out⟩
end Go.Proofs.YtkefbgkdkmkghaaDoor
