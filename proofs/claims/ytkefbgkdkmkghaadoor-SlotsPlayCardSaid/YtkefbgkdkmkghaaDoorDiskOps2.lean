/-
  The program's disk: Sync, Crash, Image, New.
-/
import Derived.Test.YtkefbgkdkmkghaaDoorDiskOps
import Derived.BigRegion
namespace Go.Proofs.YtkefbgkdkmkghaaDoor
set_option linter.unusedSimpArgs false
set_option linter.unusedVariables false
open Go.RowKit

theorem tab_set {tab : List (Value × Value)} {j : Nat} (hj : j < tab.length) (v u : Value) : ((flatT tab).set (j * 2) v).set (j * 2 + 1) u = flatT (tab.set j (v, u)) := by
  rw [flatT_set1 tab j v hj, flatT_set2 _ j u (by rw [List.length_set]; exact hj), List.set_set]
  congr 2
  simp [List.getD, hj]
/-- A sector keeps one version. -/
theorem DiskAt.keepOne {w : World} {p : Nat} {R : Roles} {d : Dk} {g cap : Nat} {tab : List (Value × Value)} (h : DiskAt w p R d (some ⟨g, 0, none⟩) cap tab) {j : Nat} (hj : j < d.vs.length) {v : Value} {b : List Int} (hb : BVal w R v b) :
    DiskAt ((w.setCell ⟨g, j * 2, none⟩ v).setCell ⟨g, j * 2 + 1, none⟩ (.slice none 0 0)) p R { d with vs := d.vs.set j [b] } (some ⟨g, 0, none⟩) cap (tab.set j (v, .slice none 0 0)) ∧ Keeps (Wr R) w ((w.setCell ⟨g, j * 2, none⟩ v).setCell ⟨g, j * 2 + 1, none⟩ (.slice none 0 0)) := by
  have hgr : R g = 3 := h.role g ((blkOf_some _ _ _ _).2 rfl)
  have hjt : j < tab.length := by rw [h.len]; exact hj
  have ho1 := h.own.setCell (j * 2) (by rw [flatT_len]; omega) v
  have ho2 := ho1.setCell (j * 2 + 1) (by rw [List.length_set, flatT_len]; omega) (.slice none 0 0)
  rw [tab_set hjt] at ho2
  have hk : Keeps (fun x => R x = 3 ∨ R x = 4 + j) w ((w.setCell ⟨g, j * 2, none⟩ v).setCell ⟨g, j * 2 + 1, none⟩ (.slice none 0 0)) :=
    ((Keeps.refl _ _).setCell (p := ⟨g, j * 2, none⟩) (.inl (.inl hgr)) _).setCell (p := ⟨g, j * 2 + 1, none⟩) (.inl (.inl hgr)) _
  refine ⟨h.step hj hk (fun _ _ => rfl) (fun x hx => Nat.lt_of_lt_of_le (h.lt x hx) hk.size) ho2 (hb.keep hk (fun x h1 e => by omega) (fun _ _ => rfl)) ⟨none, 0, [], rfl, Own.nil _ _ _, fun x hx => (blkOf_none x hx).elim, fun i hi => by simp at hi⟩, hk.mono (fun x hx => by unfold Wr; omega)⟩
/-- .. the one that it had. -/
theorem DiskAt.keepFast {w : World} {p : Nat} {R : Roles} {d : Dk} {g cap : Nat} {tab : List (Value × Value)} (h : DiskAt w p R d (some ⟨g, 0, none⟩) cap tab) {j : Nat} (hj : j < d.vs.length) :
    ∃ tab', DiskAt (w.setCell ⟨g, j * 2 + 1, none⟩ (.slice none 0 0)) p R { d with vs := d.vs.set j [(d.at_ j).getD 0 []] } (some ⟨g, 0, none⟩) cap tab' ∧ Keeps (Wr R) w (w.setCell ⟨g, j * 2 + 1, none⟩ (.slice none 0 0)) := by
  have hgr : R g = 3 := h.role g ((blkOf_some _ _ _ _).2 rfl)
  have hjt : j < tab.length := by rw [h.len]; exact hj
  have ho1 := h.own.setCell (j * 2 + 1) (by rw [flatT_len]; omega) (.slice none 0 0)
  rw [flatT_set2 tab j _ hjt] at ho1
  have hk : Keeps (fun x => R x = 3 ∨ R x = 4 + j) w (w.setCell ⟨g, j * 2 + 1, none⟩ (.slice none 0 0)) := (Keeps.refl _ _).setCell (p := ⟨g, j * 2 + 1, none⟩) (.inl (.inl hgr)) _
  refine ⟨_, h.step hj hk (fun _ _ => rfl) (fun x hx => Nat.lt_of_lt_of_le (h.lt x hx) hk.size) ho1 ((h.secs j hj).1.keep hk (fun x h1 e => by omega) (fun _ _ => rfl)) ⟨none, 0, [], rfl, Own.nil _ _ _, fun x hx => (blkOf_none x hx).elim, fun i hi => by simp at hi⟩, hk.mono (fun x hx => by unfold Wr; omega)⟩
/-- What lies loose last, and where. -/
theorem DiskAt.looseAt {w : World} {p : Nat} {R : Roles} {d : Dk} {a : Option Addr} {cap : Nat} {tab : List (Value × Value)} (h : DiskAt w p R d a cap tab) {j : Nat} (hj : j < d.vs.length) (hL : 0 < (d.at_ j).length) :
    ∃ la lc, (tab.getD j (undef, undef)).2 = .slice la ((d.at_ j).length - 1) lc ∧ (d.at_ j).length - 1 ≤ lc ∧ lc ≤ 9223372036854775807 ∧ ∀ r, r + 1 < (d.at_ j).length → ∃ gl v, la = some ⟨gl, 0, none⟩ ∧ w.cell? ⟨gl, r, none⟩ = some v ∧ BVal w R v ((d.at_ j).getD (r + 1) []) := by
  obtain ⟨la, lc, pv, hlve, hlo, _, hlb⟩ := (h.secs j hj).2
  have hm := hlo.2.2.1
  unfold maxLen at hm
  refine ⟨la, lc, hlve, hlo.2.1, by omega, fun r hr => ?_⟩
  obtain ⟨gl, hg, _, hrl⟩ := hlo.some (by omega)
  refine ⟨gl, pv.getD r undef, hg, ?_, hlb r hr⟩
  have hpl := hlo.1
  have h1 := hrl r (pv.getD r undef) (by rw [List.getD_eq_getElem?_getD, List.getElem?_eq_getElem (by omega)]; simp)
  rw [Nat.zero_add] at h1
  exact h1
def settleTo (vs : List (List (List Int))) (j : Nat) : List (List (List Int)) := (vs.take j).map (fun l => [lastV l]) ++ vs.drop j
theorem settleTo_len (vs : List (List (List Int))) (j : Nat) : (settleTo vs j).length = vs.length := by simp [settleTo]; omega
theorem settleTo_at {vs : List (List (List Int))} {j : Nat} (h : j < vs.length) : (settleTo vs j).getD j [] = vs.getD j [] := by
  simp only [settleTo, List.getD, List.getElem?_append, List.length_map, List.length_take, Nat.min_eq_left (Nat.le_of_lt h), Nat.lt_irrefl, if_false, Nat.sub_self]
  simp
theorem settleTo_succ {vs : List (List (List Int))} {j : Nat} (h : j < vs.length) : settleTo vs (j + 1) = (settleTo vs j).set j [lastV (vs.getD j [])] := by
  apply List.ext_getElem?
  intro i
  simp only [settleTo, List.getElem?_append, List.getElem?_set, List.length_append, List.length_map, List.length_take, List.length_drop, List.getElem?_map, List.getElem?_take, List.getElem?_drop]
  have e1 : min (j + 1) vs.length = j + 1 := by omega
  have e2 : min j vs.length = j := by omega
  rw [e1, e2]
  by_cases h1 : i < j
  · simp [h1, show i < j + 1 by omega, show ¬ j = i by omega]
  · by_cases h2 : i = j
    · subst h2
      simp [h, List.getD]
      omega
    · simp [h1, show ¬ i < j + 1 by omega, show ¬ j = i by omega]
      congr 1
      omega
theorem settleTo_zero (vs : List (List (List Int))) : settleTo vs 0 = vs := by simp [settleTo]
theorem settleTo_all (vs : List (List (List Int))) : settleTo vs vs.length = vs.map fun l => [lastV l] := by simp [settleTo]
theorem lastV_one {l : List (List Int)} (h : l.length = 1) : [lastV l] = l := by
  obtain ⟨b, rfl⟩ := List.length_eq_one_iff.1 h
  rfl
set_option maxRecDepth 20000 in
set_option maxHeartbeats 1600000 in
theorem sync_walk {w : World} {p : Nat} {R : Roles} {d : Dk} {pe : Nat → Addr} (hE : ∀ w', Keeps (Wr R) w w' → Err2 w' pe) (h : IsDisk w p R d) {m : Nat} (hok : d.Ok m) (hm9 : m ≤ 1000000) :
    Calls Tryd.prog 17 #[.pointer (some ⟨p, 0, none⟩)] w fun e w' => e = .returned (errO pe d.sync.2) ∧ IsDisk w' p R d.sync.1 ∧ Keeps (Wr R) w w' := by
  have HEE := Lib.hid hE
  have HH := Lib.hid h
  have hme : Hid (R p = 2) := by obtain ⟨_, _, _, hA⟩ := h; exact Lib.hid hA.me
  obtain ⟨a, cap, tab, hA⟩ := h
  have c1 := hA.obj.cell 1 rfl
  have HV : Hid (errO pe (some 0) = errV pe 0) := Lib.hid rfl
  have HO : Hid (errO pe none = .nilIface) := Lib.hid rfl
  by_cases ho : d.off = true
  · have hw : d.sync = (d, some 0) := by unfold Dk.sync; rw [if_pos ho]
    rw [hw]
    have g0 : w.cell? ⟨0, 0, none⟩ = some (errV pe 0) := (hE w (Keeps.refl _ _)).at_ 0 (by decide)
    rw [ho] at c1
    clear hE hA hok hw
    generalize errV pe 0 = V at *
    go_enter Tryd.func17, Tryd.ntmps17
    go_wp2_with fail
    go_ret
    exact ⟨by rw [HV.out]; rfl, HH.out, Keeps.refl _ _⟩
  · have ho' : d.off = false := by simpa using ho
    rw [ho'] at c1
    have HG := Lib.hid (goes_walk hA hok.left)
    by_cases hg : d.goes.off = true
    · have hw : d.sync = (d.goes, some 0) := by unfold Dk.sync; rw [if_neg ho, if_pos hg]
      rw [hw]
      rw [hg] at HG
      clear hE hA hok hw ho hg
      go_enter Tryd.func17, Tryd.ntmps17
      go_wp2_with fail
      refine HG.out.mono ?_
      rintro e w1 ⟨rfl, hd, hk⟩
      have hkw : Keeps (Wr R) w w1 := hk.mono (fun x hx => by unfold Wr; rw [show x = p from hx, hme.out]; exact Nat.le_refl _)
      have HF := Lib.hid (And.intro hd.is hkw)
      have g0 : w1.cell? ⟨0, 0, none⟩ = some (errV pe 0) := (HEE.out w1 hkw).at_ 0 (by decide)
      clear hd hk hkw HG
      generalize errV pe 0 = V at *
      go_wp2_with fail
      go_ret
      exact ⟨by rw [HV.out]; rfl, HF.out⟩
    · have hw : d.sync = (d.goes.settle, none) := by unfold Dk.sync; rw [if_neg ho, if_neg hg]
      have hgf : d.goes.off = false := by simpa using hg
      rw [hw]
      rw [hgf] at HG
      have HOK := Lib.hid hok.goes
      clear hE hA hok hw ho hg hgf
      generalize d.goes = d1 at *
      go_enter Tryd.func17, Tryd.ntmps17
      go_wp2_with fail
      refine HG.out.mono ?_
      rintro e w1 ⟨rfl, hd, hk⟩
      have HK1 : Hid (Keeps (Wr R) w w1) := Lib.hid (hk.mono (fun x hx => by unfold Wr; rw [show x = p from hx, hme.out]; exact Nat.le_refl _))
      have c0 := hd.obj.cell 0 rfl
      have HD := Lib.hid hd
      clear hd hk HG c1
      generalize hvn : d1.vs.length = vn at *
      have HVN := Lib.hid hvn
      clear hvn
      go_wp2_with fail
      go_loopw [3, 4, 20] (fun _ _ x wr => ∃ (j : Nat) (tab' : List (Value × Value)), x = .int .i64 j ∧ j ≤ vn ∧ Hid (DiskAt wr p R { d1 with vs := settleTo d1.vs j } a cap tab') ∧ Hid (Keeps (Wr R) w wr)) (fun _ _ x _ => vn - (intOf x).toNat)
      case atStart => exact ⟨0, tab, rfl, Nat.zero_le _, Lib.hid (by rw [settleTo_zero]; exact HD.out), HK1⟩
      case round =>
        obtain ⟨j, tab', rfl, hj, hdj, hkj⟩ := hrel
        clear c0
        by_cases hjn : j < vn
        · have hjl : j < (Dk.mk (settleTo d1.vs j) d1.left d1.off).vs.length := by show j < (settleTo d1.vs j).length; rw [settleTo_len, HVN.out]; exact hjn
          have hat : Dk.at_ { d1 with vs := settleTo d1.vs j } j = d1.at_ j := settleTo_at (by rw [HVN.out]; exact hjn)
          have hL0 := HOK.out.pos (i := j) (by rw [HVN.out]; exact hjn)
          have hLm := HOK.out.at_ (i := j) (by rw [HVN.out]; exact hjn)
          obtain ⟨g, ha, t1, t2, hgl, hcn, hcx⟩ := hdj.out.tabAt hjl
          obtain ⟨la, lc, hle, hlc, hlx, hlr⟩ := hdj.out.looseAt hjl (by rw [hat]; exact hL0)
          have c0 := hdj.out.obj.cell 0 rfl
          rw [show (Dk.mk (settleTo d1.vs j) d1.left d1.off).vs.length = vn by show (settleTo d1.vs j).length = vn; rw [settleTo_len, HVN.out]] at c0 hcn
          rw [hat] at hle hlc hlr
          rw [hle] at t2
          subst ha
          have z1 := hdj.out.own.frozen (j * 2)
          have z2 := hdj.out.own.frozen (j * 2 + 1)
          have hsucc := settleTo_succ (vs := d1.vs) (j := j) (by rw [HVN.out]; exact hjn)
          have HLR := Lib.hid hlr
          have hj0 : (0 : Int) ≤ j := by omega
          have hj1 : (j : Int) < vn := by omega
          have HS := Lib.hid (And.intro hjl (And.intro hat hsucc))
          clear hjl hat hlr hsucc hle
          have HATD : Hid (d1.at_ j = d1.vs.getD j []) := Lib.hid rfl
          generalize hLE : d1.at_ j = L at *
          clear hLE
          by_cases h1 : L.length = 1
          · have hz : L.length - 1 = 0 := by omega
            rw [hz] at t2
            have hsame : settleTo d1.vs (j + 1) = settleTo d1.vs j := by
              rw [HS.out.2.2, ← HATD.out, lastV_one h1]
              have h2 := HS.out.2.1
              unfold Dk.at_ at h2
              apply List.ext_getElem?
              intro i
              rw [List.getElem?_set]
              split
              · rename_i e
                subst e
                have hjl := HS.out.1
                rw [← h2]
                simp [List.getD, hjl]
              · rfl
            have HSM := Lib.hid hsame
            clear hsame h1 hz hlc z1 z2
            go_wp2_with fail
            have HN : Hid (DiskAt wr p R { d1 with vs := settleTo d1.vs (j + 1) } (some ⟨g, 0, none⟩) cap tab') := Lib.hid (by rw [HSM.out]; exact hdj.out)
            go_roundw
            case rel => first | exact ⟨j + 1, tab', by go_num, by omega, HN, hkj⟩ | ((repeat apply Exists.intro); exact ⟨⟨j + 1, tab', by go_num, by omega, HN, hkj⟩, rfl⟩)
            case measure => first | (simp [intOf]; done) | (simp [intOf]; omega)
          · obtain ⟨q, hq⟩ : ∃ q, L.length = q + 2 := ⟨L.length - 2, by omega⟩
            obtain ⟨gl, v, hla, hcv, hbv⟩ := HLR.out q (by omega)
            have hlast : lastV L = L.getD (q + 1) [] := by rw [lastV_eq (by intro e; rw [e] at hq; simp at hq), show L.length - 1 = q + 1 by omega]
            rw [← hlast] at hbv
            subst hla
            have hk1 := hdj.out.keepOne HS.out.1 hbv
            have hsec : ({ d1 with vs := (settleTo d1.vs j).set j [lastV L] } : Dk) = { d1 with vs := settleTo d1.vs (j + 1) } := by rw [HS.out.2.2, ← HATD.out]
            have HN : Hid (DiskAt ((wr.setCell ⟨g, j * 2, none⟩ v).setCell ⟨g, j * 2 + 1, none⟩ (.slice none 0 0)) p R { d1 with vs := settleTo d1.vs (j + 1) } (some ⟨g, 0, none⟩) cap (tab'.set j (v, .slice none 0 0)) ∧ Keeps (Wr R) w ((wr.setCell ⟨g, j * 2, none⟩ v).setCell ⟨g, j * 2 + 1, none⟩ (.slice none 0 0))) :=
              Lib.hid ⟨hsec ▸ hk1.1, hkj.out.trans hk1.2⟩
            obtain ⟨g9, o9, c9, hve, _⟩ := hbv
            subst hve
            rw [show L.length - 1 = q + 1 by omega] at t2 hlc
            have hq9 : (q : Int) ≤ 1000000 := by omega
            have hq0 : (0 : Int) ≤ q := by omega
            have hq1 : q < q + 1 := by omega
            clear hk1 hsec hlast hLm hL0 hq h1
            go_wp2_with fail
            go_region
            have HN2 : Hid (DiskAt ((wr.setCell ⟨g, j * 2, none⟩ (.slice (some ⟨g9, o9, none⟩) 128 c9)).setCell ⟨g, j * 2 + 1, none⟩ (.slice none 0 0)).drew p R { d1 with vs := settleTo d1.vs (j + 1) } (some ⟨g, 0, none⟩) cap (tab'.set j (.slice (some ⟨g9, o9, none⟩) 128 c9, .slice none 0 0)) ∧ Keeps (Wr R) w ((wr.setCell ⟨g, j * 2, none⟩ (.slice (some ⟨g9, o9, none⟩) 128 c9)).setCell ⟨g, j * 2 + 1, none⟩ (.slice none 0 0)).drew) :=
              Lib.hid ⟨HN.out.1.keep0 (Keeps.refl Nil _).drew, HN.out.2.drew⟩
            clear HN t1 t2 hcv z1 z2
            generalize ((wr.setCell ⟨g, j * 2, none⟩ (.slice (some ⟨g9, o9, none⟩) 128 c9)).setCell ⟨g, j * 2 + 1, none⟩ (.slice none 0 0)).drew = wn at *
            go_wp2_with fail
            go_roundw
            case rel => first | exact ⟨j + 1, _, by go_num, by omega, Lib.hid HN2.out.1, Lib.hid HN2.out.2⟩ | ((repeat apply Exists.intro); exact ⟨⟨j + 1, _, by go_num, by omega, Lib.hid HN2.out.1, Lib.hid HN2.out.2⟩, rfl⟩)
            case measure => first | (simp [intOf]; done) | (simp [intOf]; omega)
        · obtain rfl : j = vn := by omega
          have hall : ({ d1 with vs := settleTo d1.vs j } : Dk) = d1.settle := by unfold Dk.settle; rw [← HVN.out, settleTo_all]
          have HF := Lib.hid (And.intro (hall ▸ hdj.out.is) hkj.out)
          clear hall hdj hkj
          go_wp2_with fail
          go_ret
          exact ⟨by rw [HO.out]; rfl, HF.out⟩
theorem crashL_at {vs : List (List (List Int))} {j : Nat} (h : j < vs.length) (ks : List Int) : crashL (vs.drop j) ks = crashL (vs.getD j [] :: vs.drop (j + 1)) ks := by
  rw [List.drop_eq_getElem_cons h]
  simp [List.getD, h]
theorem crashL_one {l : List (List Int)} {r : List (List (List Int))} {ks : List Int} (h : l.length < 2) : crashL (l :: r) ks = l :: crashL r ks := by conv => lhs; unfold crashL; rw [if_pos h]
theorem crashL_none {l : List (List Int)} {r : List (List (List Int))} (h : ¬ l.length < 2) : crashL (l :: r) [] = [l.getD 0 []] :: crashL r [] := by conv => lhs; unfold crashL; rw [if_neg h]
theorem crashL_some {l : List (List Int)} {r : List (List (List Int))} {k : Int} {ks : List Int} (h : ¬ l.length < 2) : crashL (l :: r) (k :: ks) = [l.getD (keepN k l.length) []] :: crashL r ks := by conv => lhs; unfold crashL; rw [if_neg h]
/-- How far a crash has come: what is done, what is still to do. -/
def CrashAt (vs : List (List (List Int))) (keep : List Int) (j : Nat) (zs : List Int) (cs : List (List (List Int))) : Prop :=
  ∃ dn, dn.length = j ∧ cs = dn ++ vs.drop j ∧ dn ++ crashL (vs.drop j) zs = crashL vs keep
theorem CrashAt.start (vs : List (List (List Int))) (keep : List Int) : CrashAt vs keep 0 keep vs := ⟨[], rfl, by simp, by simp⟩
theorem CrashAt.len {vs : List (List (List Int))} {keep zs : List Int} {j : Nat} {cs : List (List (List Int))} (h : CrashAt vs keep j zs cs) (hj : j ≤ vs.length) : cs.length = vs.length := by
  obtain ⟨dn, h1, h2, _⟩ := h
  rw [h2, List.length_append, List.length_drop, h1]; omega
theorem CrashAt.at_ {vs : List (List (List Int))} {keep zs : List Int} {j : Nat} {cs : List (List (List Int))} (h : CrashAt vs keep j zs cs) (hj : j < vs.length) : cs.getD j [] = vs.getD j [] := by
  obtain ⟨dn, h1, h2, _⟩ := h
  rw [h2]
  simp [List.getD, List.getElem?_append, h1]
theorem CrashAt.step {vs : List (List (List Int))} {keep zs zs' : List Int} {j : Nat} {cs : List (List (List Int))} {l : List (List Int)} (h : CrashAt vs keep j zs cs) (hj : j < vs.length) (hc : crashL (vs.getD j [] :: vs.drop (j + 1)) zs = l :: crashL (vs.drop (j + 1)) zs') :
    CrashAt vs keep (j + 1) zs' (cs.set j l) := by
  obtain ⟨dn, h1, h2, h3⟩ := h
  refine ⟨dn ++ [l], by rw [List.length_append, h1]; rfl, ?_, ?_⟩
  · rw [h2, List.set_append_right _ _ (by omega), h1, Nat.sub_self, List.drop_eq_getElem_cons hj, List.set_cons_zero]
    simp
  · rw [← h3, crashL_at hj, hc]; simp
theorem CrashAt.last {vs : List (List (List Int))} {keep zs : List Int} {cs : List (List (List Int))} (h : CrashAt vs keep vs.length zs cs) : cs = crashL vs keep := by
  obtain ⟨dn, _, h2, h3⟩ := h
  rw [h2, ← h3]
  simp [crashL]
theorem CrashAt.same {vs : List (List (List Int))} {keep zs : List Int} {j : Nat} {cs : List (List (List Int))} (h : CrashAt vs keep j zs cs) (hj : j < vs.length) (hl : (vs.getD j []).length < 2) : CrashAt vs keep (j + 1) zs cs := by
  have h1 := h.step hj (crashL_one (r := vs.drop (j + 1)) (ks := zs) hl)
  have h2 := h.at_ hj
  have h3 := h.len (by omega)
  have : cs.set j (vs.getD j []) = cs := by
    apply List.ext_getElem?
    intro i
    rw [List.getElem?_set]
    split
    · rename_i e
      subst e
      rw [← h2]
      simp [List.getD, show j < cs.length by omega]
    · rfl
  rwa [this] at h1
theorem Row.tail1 {w : World} {ad : Addr} {n : Nat} {z : Int} {zs : List Int} (h : Row .i64 w (some ad) n (z :: zs)) (hn : 1 ≤ n) (c : Nat) (hc : n ≤ c) : Row .i64 w (if c = 1 then some ad else some (ad.add 1)) (n - 1) zs := by
  by_cases h1 : n = 1
  · have hz : zs = [] := by
      have := h.llen
      simp at this
      exact List.eq_nil_of_length_eq_zero (by omega)
    subst h1 hz
    exact ⟨rfl, by omega, fun h => by omega, fun x hx => by cases hx⟩
  · rw [if_neg (by omega)]
    have := h.tail 1 hn
    simpa using this
set_option maxRecDepth 20000 in
set_option maxHeartbeats 1600000 in
theorem crash_walk {w : World} {p : Nat} {R : Roles} {d : Dk} (h : IsDisk w p R d) {m : Nat} (hok : d.Ok m) (hm9 : m ≤ 1000000) {ak : Option Addr} {nk ck : Nat} {ks : List Int} (hks : Row .i64 w ak nk ks) (hkc : nk ≤ ck) (hkx : ck ≤ 9223372036854775807) (hkR : 0 < nk → ∀ k, blkOf ak k → R k = 0) :
    Calls Tryd.prog 24 #[.pointer (some ⟨p, 0, none⟩), .slice ak nk ck] w fun e w' => e = .returned (.tuple #[]) ∧ IsDisk w' p R (d.crash ks) ∧ Keeps (Wr R) w w' := by
  obtain ⟨a, cap, tab, hA⟩ := h
  have c0 := hA.obj.cell 0 rfl
  have hme : Hid (R p = 2) := Lib.hid hA.me
  have HD := Lib.hid hA
  have HOK := Lib.hid hok
  have HK0 := Lib.hid hks
  have HKR := Lib.hid hkR
  clear hA hok hks hkR
  generalize hvn : d.vs.length = vn at *
  have HVN := Lib.hid hvn
  clear hvn
  go_enter Tryd.func24, Tryd.ntmps24
  go_wp2_with fail
  go_loopw [1, 4, 5, 6, 12] (fun vk _ _ _ x wr => ∃ (j : Nat) (ar : Option Addr) (nr cr : Nat) (zs : List Int) (cs : List (List (List Int))) (tab' : List (Value × Value)), vk = .slice ar nr cr ∧ x = .int .i64 j ∧ j ≤ vn ∧ nr ≤ cr ∧ cr ≤ 9223372036854775807 ∧ Hid (Row .i64 wr ar nr zs) ∧ Hid (0 < nr → ∀ k, blkOf ar k → R k = 0) ∧ Hid (CrashAt d.vs ks j zs cs) ∧ Hid (DiskAt wr p R { d with vs := cs } a cap tab') ∧ Hid (Keeps (Wr R) w wr)) (fun _ _ _ _ x _ => vn - (intOf x).toNat)
  case atStart => exact ⟨0, ak, nk, ck, ks, d.vs, tab, rfl, rfl, Nat.zero_le _, hkc, hkx, HK0, HKR, Lib.hid (CrashAt.start _ _), HD, Lib.hid (Keeps.refl _ _)⟩
  case round =>
    obtain ⟨j, ar, nr, cr, zs, cs, tab', rfl, rfl, hj, hnc, hcrx, hzs, hrR, hca, hdj, hkj⟩ := hrel
    clear c0
    by_cases hjn : j < vn
    · have hcl : cs.length = vn := by rw [hca.out.len (by rw [HVN.out]; exact hj), HVN.out]
      have hjl : j < (Dk.mk cs d.left d.off).vs.length := by show j < cs.length; omega
      have hat : Dk.at_ { d with vs := cs } j = d.vs.getD j [] := hca.out.at_ (by rw [HVN.out]; exact hjn)
      have hL0 := HOK.out.pos (i := j) (by rw [HVN.out]; exact hjn)
      have hLm := HOK.out.at_ (i := j) (by rw [HVN.out]; exact hjn)
      have hatd : d.at_ j = d.vs.getD j [] := rfl
      rw [hatd] at hL0 hLm
      obtain ⟨g, ha, t1, t2, hgl, hcn, hcx⟩ := hdj.out.tabAt hjl
      obtain ⟨la, lc, hle, hlc, hlx, hlr⟩ := hdj.out.looseAt hjl (by rw [hat]; exact hL0)
      have c0 := hdj.out.obj.cell 0 rfl
      rw [show (Dk.mk cs d.left d.off).vs.length = vn from hcl] at c0 hcn
      rw [hat] at hle hlc hlr
      rw [hle] at t2
      subst ha
      have z1 := hdj.out.own.frozen (j * 2)
      have z2 := hdj.out.own.frozen (j * 2 + 1)
      have HLR := Lib.hid hlr
      have hj0 : (0 : Int) ≤ j := by omega
      have hj1 : (j : Int) < vn := by omega
      have HS := Lib.hid (And.intro hjl hat)
      have HST := Lib.hid (fun (l : List (List Int)) (zs' : List Int) (hc : crashL (d.vs.getD j [] :: d.vs.drop (j + 1)) zs = l :: crashL (d.vs.drop (j + 1)) zs') => hca.out.step (by rw [HVN.out]; exact hjn) hc)
      have HSA := Lib.hid (fun (hl : (d.vs.getD j []).length < 2) => hca.out.same (by rw [HVN.out]; exact hjn) hl)
      have hkf := hdj.out.keepFast hjl
      rw [hat] at hkf
      have hk1 := fun v b hb => hdj.out.keepOne (v := v) (b := b) hjl hb
      have HK1 := Lib.hid hk1
      have HKF := Lib.hid hkf
      clear hjl hat hlr hle hatd hcl hkf hk1
      generalize d.vs.getD j [] = L at *
      generalize d.vs.drop (j + 1) = rest at *
      by_cases h1 : L.length = 1
      · have hz : L.length - 1 = 0 := by omega
        rw [hz] at t2
        have HC2 := Lib.hid (HSA.out (by omega))
        clear h1 hz hlc z1 z2
        go_wp2_with fail
        go_roundw
        case rel => first | exact ⟨j + 1, ar, nr, cr, zs, cs, tab', rfl, by go_num, by omega, hnc, hcrx, hzs, hrR, HC2, hdj, hkj⟩ | ((repeat apply Exists.intro); exact ⟨⟨j + 1, ar, nr, cr, zs, cs, tab', rfl, by go_num, by omega, hnc, hcrx, hzs, hrR, HC2, hdj, hkj⟩, rfl⟩)
        case measure => first | (simp [intOf]; done) | (simp [intOf]; omega)
      · obtain ⟨q, hq⟩ : ∃ q, L.length = q + 2 := ⟨L.length - 2, by omega⟩
        rw [show L.length - 1 = q + 1 by omega] at t2 hlc
        have hq9 : (q : Int) ≤ 1000000 := by omega
        have hq0 : (0 : Int) ≤ q := by omega
        have HQ := Lib.hid hq
        obtain ⟨tabF, hF1, hF2⟩ := HKF.out
        have HFF := Lib.hid (And.intro hF1 (hkj.out.trans hF2))
        clear hF1 hF2 hq h1 hLm hL0
        by_cases hn0 : nr = 0
        · have hzn : zs = [] := List.eq_nil_of_length_eq_zero (by rw [hzs.out.llen, hn0])
          subst hzn
          have hnI : (nr : Int) = 0 := by omega
          have HC2 := Lib.hid (HST.out _ _ (crashL_none (by rw [HQ.out]; omega)))
          clear hn0
          go_wp2_with fail
          have hz2 := Lib.hid (hzs.out.keepF (HFF.out.2 |> fun _ => HKF.out.choose_spec.2) (fun h0 b hb e => by have := hrR.out h0 b hb; unfold Wr at e; omega))
          exact ⟨⟨j + 1, ar, nr, cr, [], _, tabF, rfl, by go_num, by omega, hnc, hcrx, hz2, hrR, HC2, Lib.hid HFF.out.1, Lib.hid HFF.out.2⟩, by first | (simp [intOf]; done) | (simp [intOf]; omega)⟩
        · obtain ⟨z, zs', hzz⟩ : ∃ z zs', zs = z :: zs' := by
            cases zs with
            | nil => have := hzs.out.llen; simp at this; omega
            | cons z zs' => exact ⟨z, zs', rfl⟩
          subst hzz
          obtain ⟨bk, offk, har, hbk, hck⟩ := hzs.out.cell (by omega)
          have ck := hck 0 (by omega)
          simp only [List.getD_cons_zero, Nat.add_zero] at ck
          subst har
          have hzw := i64_wf (hzs.out.wf z (by simp))
          have hnI : (0 : Int) < nr := by omega
          have hnI1 : (1 : Int) ≤ nr := by omega
          have hnI2 : (nr : Int) ≤ cr := by omega
          have hcI : (cr : Int) ≤ 9223372036854775807 := by omega
          have hnN : 0 < nr := by omega
          clear hck
          have hnn0 : ∃ nn : Nat, keepN z L.length = nn ∧ (z < 0 → nn = 0) ∧ (0 ≤ z → z % ((q : Int) + 1 + 1) = nn) ∧ nn < q + 2 := by
            refine ⟨_, rfl, fun h => ?_, fun h => ?_, by have := keepN_lt z (n := L.length) (by rw [HQ.out]; omega); rw [HQ.out] at this ⊢; exact this⟩
            · unfold keepN; rw [show max z 0 = 0 by omega]; simp
            · unfold keepN
              rw [HQ.out, show max z 0 = z by omega]
              obtain ⟨y, rfl⟩ := Int.eq_ofNat_of_zero_le h
              simp only [Int.toNat_natCast]
              rw [show (q : Int) + 1 + 1 = ((q + 2 : Nat) : Int) by omega]
              rfl
          obtain ⟨nn, hn1, hn2, hn3, hn4⟩ := hnn0
          have HC2 := Lib.hid (HST.out _ _ (crashL_some (k := z) (ks := zs') (by rw [HQ.out]; omega)))
          rw [hn1] at HC2
          have HDD := Lib.hid (hdj.out.keep0 (Keeps.refl Nil wr).drew)
          obtain ⟨tabD, hD1, hD2⟩ := HDD.out.keepFast HS.out.1
          rw [HS.out.2] at hD1
          have HFD := Lib.hid (And.intro hD1 (And.intro hD2 (hkj.out.drew.trans hD2)))
          have HZ := Lib.hid (Row.tail1 (hzs.out.keep (Keeps.refl Nil wr).drew) hnN cr hnc)
          have HRT := Lib.hid (fun (A : Option Addr) (hA : A = some ⟨bk, offk, none⟩ ∨ A = some ⟨bk, offk + 1, none⟩) k (hk : blkOf A k) => show R k = 0 by
            have h0 := hrR.out (by omega) bk ((blkOf_some _ _ _ _).2 rfl)
            rcases hA with rfl | rfl
            · rw [(blkOf_some _ _ _ _).1 hk]; exact h0
            · rw [(blkOf_some _ _ _ _).1 hk]; exact h0)
          have HN4 := Lib.hid hn4
          clear hn1 hD1 hD2 hn4
          have t1d : wr.drew.cell? ⟨g, j * 2, none⟩ = some (tab'.getD j (undef, undef)).1 := t1
          have t2d : wr.drew.cell? ⟨g, j * 2 + 1, none⟩ = some (.slice la (q + 1) lc) := t2
          have z1d : wr.drew.frozen? ⟨g, j * 2, none⟩ = false := z1
          have z2d : wr.drew.frozen? ⟨g, j * 2 + 1, none⟩ = false := z2
          have c0d : wr.drew.cell? ⟨p, 0, none⟩ = some (.slice (some ⟨g, 0, none⟩) vn cap) := c0
          have hsub : nr - 1 ≤ cr - 1 := by omega
          have hcrI : cr - 1 ≤ 9223372036854775807 := by omega
          by_cases hz0 : z < 0
          · have hnn := hn2 hz0
            subst hnn
            clear hn2 hn3
            go_wp2_with fail
            go_region
            clear t1 t2 z1 z2 c0 ck
            obtain ⟨wd, hwd⟩ : ∃ x, x = wr.drew := ⟨_, rfl⟩
            rw [← hwd] at HFD HDD HZ t1d t2d z1d z2d c0d ⊢
            clear hwd
            by_cases hc1 : cr = 1
            · rw [if_pos hc1] at HZ
              have HZ2 := Lib.hid (HZ.out.keepF HFD.out.2.1 (fun h0 b hb e => by have := HRT.out _ (.inl rfl) b hb; unfold Wr at e; omega))
              have HR2 := Lib.hid (HRT.out _ (.inl rfl))
              go_wp2_with fail
              go_roundw
              case rel => first | exact ⟨j + 1, _, nr - 1, 0, zs', _, tabD, rfl, by go_num, by omega, by omega, by omega, HZ2, Lib.hid (fun _ => HR2.out), HC2, Lib.hid HFD.out.1, Lib.hid HFD.out.2.2⟩ | ((repeat apply Exists.intro); exact ⟨⟨j + 1, _, nr - 1, 0, zs', _, tabD, rfl, by go_num, by omega, by omega, by omega, HZ2, Lib.hid (fun _ => HR2.out), HC2, Lib.hid HFD.out.1, Lib.hid HFD.out.2.2⟩, rfl⟩)
              case measure => first | (simp [intOf]; done) | (simp [intOf]; omega)
            · rw [if_neg hc1, Addr.add_lit] at HZ
              have HZ2 := Lib.hid (HZ.out.keepF HFD.out.2.1 (fun h0 b hb e => by have := HRT.out _ (.inr rfl) b hb; unfold Wr at e; omega))
              have HR2 := Lib.hid (HRT.out _ (.inr rfl))
              go_wp2_with fail
              go_roundw
              case rel => first | exact ⟨j + 1, _, nr - 1, cr - 1, zs', _, tabD, rfl, by go_num, by omega, hsub, hcrI, HZ2, Lib.hid (fun _ => HR2.out), HC2, Lib.hid HFD.out.1, Lib.hid HFD.out.2.2⟩ | ((repeat apply Exists.intro); exact ⟨⟨j + 1, _, nr - 1, cr - 1, zs', _, tabD, rfl, by go_num, by omega, hsub, hcrI, HZ2, Lib.hid (fun _ => HR2.out), HC2, Lib.hid HFD.out.1, Lib.hid HFD.out.2.2⟩, rfl⟩)
              case measure => first | (simp [intOf]; done) | (simp [intOf]; omega)
          · have hz1 : 0 ≤ z := by omega
            have hmod := Lib.hid (hn3 hz1)
            clear hn2 hn3
            go_wp2_with fail
            go_region
            clear t1 t2 z1 z2 c0 ck
            rw [hmod.out]
            by_cases hnz : nn = 0
            · subst hnz
              obtain ⟨wd, hwd⟩ : ∃ x, x = wr.drew := ⟨_, rfl⟩
              rw [← hwd] at HFD HDD HZ t1d t2d z1d z2d c0d ⊢
              clear hwd
              by_cases hc1 : cr = 1
              · rw [if_pos hc1] at HZ
                have HZ2 := Lib.hid (HZ.out.keepF HFD.out.2.1 (fun h0 b hb e => by have := HRT.out _ (.inl rfl) b hb; unfold Wr at e; omega))
                have HR2 := Lib.hid (HRT.out _ (.inl rfl))
                go_wp2_with fail
                go_roundw
                case rel => first | exact ⟨j + 1, _, nr - 1, 0, zs', _, tabD, rfl, by go_num, by omega, by omega, by omega, HZ2, Lib.hid (fun _ => HR2.out), HC2, Lib.hid HFD.out.1, Lib.hid HFD.out.2.2⟩ | ((repeat apply Exists.intro); exact ⟨⟨j + 1, _, nr - 1, 0, zs', _, tabD, rfl, by go_num, by omega, by omega, by omega, HZ2, Lib.hid (fun _ => HR2.out), HC2, Lib.hid HFD.out.1, Lib.hid HFD.out.2.2⟩, rfl⟩)
                case measure => first | (simp [intOf]; done) | (simp [intOf]; omega)
              · rw [if_neg hc1, Addr.add_lit] at HZ
                have HZ2 := Lib.hid (HZ.out.keepF HFD.out.2.1 (fun h0 b hb e => by have := HRT.out _ (.inr rfl) b hb; unfold Wr at e; omega))
                have HR2 := Lib.hid (HRT.out _ (.inr rfl))
                go_wp2_with fail
                go_roundw
                case rel => first | exact ⟨j + 1, _, nr - 1, cr - 1, zs', _, tabD, rfl, by go_num, by omega, hsub, hcrI, HZ2, Lib.hid (fun _ => HR2.out), HC2, Lib.hid HFD.out.1, Lib.hid HFD.out.2.2⟩ | ((repeat apply Exists.intro); exact ⟨⟨j + 1, _, nr - 1, cr - 1, zs', _, tabD, rfl, by go_num, by omega, hsub, hcrI, HZ2, Lib.hid (fun _ => HR2.out), HC2, Lib.hid HFD.out.1, Lib.hid HFD.out.2.2⟩, rfl⟩)
                case measure => first | (simp [intOf]; done) | (simp [intOf]; omega)
            · have hnzI : (0 : Int) < nn := by omega
              obtain ⟨gl, v, hla, hcv, hbv⟩ := HLR.out (nn - 1) (by rw [HQ.out]; have := HN4.out; omega)
              rw [show nn - 1 + 1 = nn by omega] at hbv
              have hcvd : wr.drew.cell? ⟨gl, nn - 1, none⟩ = some v := hcv
              have hbvd := hbv.keep (Keeps.refl Nil wr).drew (fun k h1 h2 => h2) (fun _ _ => rfl)
              obtain ⟨hD1, hD2⟩ := HDD.out.keepOne HS.out.1 hbvd
              have HOD := Lib.hid (And.intro hD1 (And.intro hD2 (hkj.out.drew.trans hD2)))
              obtain ⟨g9, o9, c9, hve, _⟩ := hbvd
              subst hve
              subst hla
              have hnnI : ((nn - 1 : Nat) : Int) = (nn : Int) - 1 := by omega
              obtain ⟨r, hr⟩ : ∃ r, r = nn - 1 := ⟨_, rfl⟩
              rw [← hr] at hcvd hnnI
              have hr1 : (nn : Int) - 1 = r := by omega
              have hr2 : r < q + 1 := by have := HN4.out; omega
              have hr0 : (0 : Int) ≤ r := by omega
              have hn9 : (nn : Int) ≤ 1000002 := by have := HN4.out; omega
              clear hD1 hD2 hcv hbv hr hnnI HFD
              obtain ⟨wd, hwd⟩ : ∃ x, x = wr.drew := ⟨_, rfl⟩
              rw [← hwd] at HOD HDD HZ t1d t2d z1d z2d c0d hcvd ⊢
              clear hwd
              by_cases hc1 : cr = 1
              · rw [if_pos hc1] at HZ
                have HZ2 := Lib.hid (HZ.out.keepF HOD.out.2.1 (fun h0 b hb e => by have := HRT.out _ (.inl rfl) b hb; unfold Wr at e; omega))
                have HR2 := Lib.hid (HRT.out _ (.inl rfl))
                go_wp2_with fail
                go_roundw
                case rel => first | exact ⟨j + 1, _, nr - 1, 0, zs', _, _, rfl, by go_num, by omega, by omega, by omega, HZ2, Lib.hid (fun _ => HR2.out), HC2, Lib.hid HOD.out.1, Lib.hid HOD.out.2.2⟩ | ((repeat apply Exists.intro); exact ⟨⟨j + 1, _, nr - 1, 0, zs', _, _, rfl, by go_num, by omega, by omega, by omega, HZ2, Lib.hid (fun _ => HR2.out), HC2, Lib.hid HOD.out.1, Lib.hid HOD.out.2.2⟩, rfl⟩)
                case measure => first | (simp [intOf]; done) | (simp [intOf]; omega)
              · rw [if_neg hc1, Addr.add_lit] at HZ
                have HZ2 := Lib.hid (HZ.out.keepF HOD.out.2.1 (fun h0 b hb e => by have := HRT.out _ (.inr rfl) b hb; unfold Wr at e; omega))
                have HR2 := Lib.hid (HRT.out _ (.inr rfl))
                go_wp2_with fail
                go_roundw
                case rel => first | exact ⟨j + 1, _, nr - 1, cr - 1, zs', _, _, rfl, by go_num, by omega, hsub, hcrI, HZ2, Lib.hid (fun _ => HR2.out), HC2, Lib.hid HOD.out.1, Lib.hid HOD.out.2.2⟩ | ((repeat apply Exists.intro); exact ⟨⟨j + 1, _, nr - 1, cr - 1, zs', _, _, rfl, by go_num, by omega, hsub, hcrI, HZ2, Lib.hid (fun _ => HR2.out), HC2, Lib.hid HOD.out.1, Lib.hid HOD.out.2.2⟩, rfl⟩)
                case measure => first | (simp [intOf]; done) | (simp [intOf]; omega)
    · obtain rfl : j = vn := by omega
      have hcs : cs = crashL d.vs ks := by
        have h1 := hca.out
        rw [← HVN.out] at h1
        exact h1.last
      have c1 := hdj.out.obj.cell 1 rfl
      have c2 := hdj.out.obj.cell 2 rfl
      have z1 := hdj.out.obj.frozen 1
      have z2 := hdj.out.obj.frozen 2
      have hk1 := ((Keeps.refl (One p) wr).setOne 1 (.bool false)).setOne 2 (.int .i64 (-1))
      have hb1 := (hdj.out.obj.set 1 (.bool false)).set 2 (.int .i64 (-1))
      have hd2 := hdj.out.head hk1 hb1
      have hfin : IsDisk ((wr.setCell ⟨p, 1, none⟩ (.bool false)).setCell ⟨p, 2, none⟩ (.int .i64 (-1))) p R (d.crash ks) := by
        unfold Dk.crash
        rw [← hcs]
        exact hd2.is
      have HF := Lib.hid (And.intro hfin (hkj.out.trans (hk1.mono (S' := Wr R) (fun x hx => by unfold Wr; rw [show x = p from hx, hme.out]; exact Nat.le_refl _))))
      clear hk1 hb1 hd2 hfin hcs hca hdj
      go_wp2_with fail
      go_end0
      exact ⟨rfl, HF.out⟩
end Go.Proofs.YtkefbgkdkmkghaaDoor
