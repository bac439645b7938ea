/-
  ProofSays: any leaf's path, what any path comes to, whether it is a root's, or why not, are what the chapter says.
-/
import Derived.Test.YtmbdldnldcgdjaaDoorProofFirst
import Derived.Test.YtmbdldnldcgdjaaDoorKeyOpen
import Derived.Deep.DeepCutAuto
import Derived.Deep.CutRange
import Derived.Deep.CutBlock
namespace Go.Proofs.YtmbdldnldcgdjaaDoor
set_option linter.unusedSimpArgs false
set_option linter.unusedVariables false
open Go.RowKit

theorem seqAt_make {w : World} {a : Option Addr} {n cap : Nat} {l : List Int} (h : Row .i64 w a n l) : SeqAt (w.alloc (.cells #[.slice a n cap, .int .i64 0] 40)) w.heap.size a n cap l 0 :=
  ⟨Blk.new w [.slice a n cap, .int .i64 0] _, h.keep ((Keeps.refl Nil w).alloc _), fun h0 e => by
    obtain ⟨bb, off, ha, hbb, _⟩ := h.cell h0
    rw [ha] at e
    have e' := (blkOf_some _ _ _ _).1 e
    omega⟩
theorem alloc1S (w : World) (c1 : List Value) (T1 : TypeId) : ∃ wA g, g = w.heap.size ∧ Blk wA g c1 T1 ∧ wA = w.alloc (.cells c1.toArray T1) ∧ Keeps Nil w wA :=
  ⟨_, _, rfl, Blk.new w c1 _, rfl, (Keeps.refl Nil w).alloc _⟩
/-- A path of whatever place. -/
def pathI (i : Int) (L : List (List Int)) : List (List Int) := if 0 ≤ i ∧ i < L.length then pathL i.toNat L else []
def pathEI (i : Int) (n : Nat) : Option Nat := if 0 ≤ i ∧ i < n then none else some 1
theorem pathI_are {i : Int} {L : List (List Int)} (h : AreH L) : AreH (pathI i L) := by
  unfold pathI
  split
  · exact pathL_are _ _ _ rfl h
  · exact fun x hx => nomatch hx
theorem pathI_len (i : Int) (L : List (List Int)) : (pathI i L).length ≤ L.length := by
  unfold pathI
  split
  · rw [pathL_len _ _ _ rfl]; have := depthN_le L.length i.toNat; omega
  · exact Nat.zero_le _
def PathAny (w : World) (p : Nat → Addr) (i : Int) (n : Nat) (P : List (List Int)) (e : Ending) (w' : World) : Prop :=
  ∃ (a : Option Addr) (cap : Nat), e = .returned (.tuple #[.slice a P.length cap, errO p (pathEI i n)]) ∧ OwnH w' a cap P ∧ Keeps Nil w w'
theorem pathAny_walk {n : Nat} {i : Int} {w : World} {p : Nat → Addr} (hE : Errs w p) {a : Option Addr} {cap : Nat} {L : List (List Int)} (hl : L.length = n) (h : Hs w a L) (hc : n ≤ cap) (hc9 : cap ≤ 9223372036854775807) (hn : n ≤ 1000000) :
    Calls Tryd.prog 10 #[.int .i64 i, .slice a n cap] w (PathAny w p i n (pathI i L)) := by
  by_cases hi : 0 ≤ i ∧ i < n
  · obtain ⟨k, rfl⟩ := Int.eq_ofNat_of_zero_le hi.1
    refine (pathOk_walk (i := k) hl h hc hc9 (by omega) hn).mono ?_
    rintro e w1 ⟨a1, c1, rfl, ho, hk, _⟩
    have hp : pathI (k : Int) L = pathL k L := by unfold pathI; rw [if_pos (by omega)]; rfl
    have he : pathEI (k : Int) n = none := by unfold pathEI; rw [if_pos hi]
    exact ⟨a1, c1, by rw [hp, he]; rfl, by rw [hp]; exact ho, hk⟩
  · refine (pathBad_walk hE (by omega)).mono ?_
    rintro e w1 ⟨rfl, hk⟩
    have hp : pathI i L = [] := by unfold pathI; rw [if_neg (by omega)]
    have he : pathEI i n = some 1 := by unfold pathEI; rw [if_neg hi]
    exact ⟨none, 0, by rw [hp, he]; rfl, by rw [hp]; exact OwnH.nil _, hk⟩
def inI (i : Int) (n : Nat) : Bool := decide (0 ≤ i ∧ i < n)
def RPathAny (w : World) (i : Int) (n : Nat) (P : List (List Int)) (e : Ending) (w' : World) : Prop :=
  ∃ (a : Option Addr) (cap : Nat), e = .returned (.tuple #[.slice a P.length cap, .bool (inI i n)]) ∧ OwnH w' a cap P ∧ Keeps Nil w w'
theorem refPathAny_walk {n : Nat} {i : Int} {w : World} {a : Option Addr} {cap : Nat} {L : List (List Int)} (hl : L.length = n) (h : Hs w a L) (hc : n ≤ cap) (hc9 : cap ≤ 9223372036854775807) :
    Calls Tryd.prog 14 #[.int .i64 i, .slice a n cap] w (RPathAny w i n (pathI i L)) := by
  by_cases hi : 0 ≤ i ∧ i < n
  · obtain ⟨k, rfl⟩ := Int.eq_ofNat_of_zero_le hi.1
    refine (refPath_walk n k hl h hc hc9 (by omega)).mono ?_
    rintro e w1 ⟨a1, c1, rfl, ho, hk, _⟩
    have hp : pathI (k : Int) L = pathL k L := by unfold pathI; rw [if_pos (by omega)]; rfl
    exact ⟨a1, c1, by rw [hp, show inI (k : Int) n = true from decide_eq_true hi], by rw [hp]; exact ho, hk⟩
  · refine (refPathBad_walk (by omega)).mono ?_
    rintro e w1 ⟨rfl, rfl⟩
    have hp : pathI i L = [] := by unfold pathI; rw [if_neg (by omega)]
    exact ⟨none, 0, by rw [hp, show inI i n = false from decide_eq_false hi]; rfl, by rw [hp]; exact OwnH.nil _, Keeps.refl _ _⟩
set_option maxRecDepth 100000 in
set_option maxHeartbeats 3200000 in
theorem proofSays_walk (a0 : Option Addr) (len0 cap0 : Nat) (z0 : List Int) (n1 n2 : Int) (X : List Int) (a4 : Option Addr) (len4 cap4 : Nat) (z4 : List Int) (w : World) {p : Nat → Addr} (w0 : IsRow .i64 w a0 len0 cap0 z0) (wf1 : (Lit.int .i64 n1).wf = true) (wf2 : (Lit.int .i64 n2).wf = true) (hX : Hash32 X) (w4 : IsRow .i64 w a4 len4 cap4 z4) (hE : Errs w p) :
    Calls Tryd.prog 4 #[.slice a0 len0 cap0, .int .i64 n1, .int .i64 n2, .agg (byteV X).toArray, .slice a4 len4 cap4] w (fun e w' => e = .returned (.bool true) ∧ Keeps Nil w w') := by
  have hw1 := i64_wf wf1
  have hw2 := i64_wf wf2
  have HE := Lib.hid hE
  have HR := Lib.hid (And.intro (Row.of_isRow w0) (Row.of_isRow w4))
  clear hE wf1 wf2 w0 w4
  obtain ⟨wA, g8, hg8, hb8, hwA, hkA⟩ := alloc1S w (byteV X) 26
  have HWA := Lib.hid (And.intro hwA hg8)
  have HA := Lib.hid (And.intro hb8 (And.intro hkA (show w.heap.size ≤ g8 by omega)))
  clear hwA hg8 hb8 hkA
  by_cases hl : 60 < len0 ∨ 20 < len4
  · rcases Classical.em (60 < len0) with h1 | h1
    · have hl2 : (60 : Int) < len0 := by omega
      clear hl HR
      go_enter Tryd.func4, Tryd.ntmps4
      go_wp2_with fail
      rw [← HWA.out.1]
      refine (prooffirst_walk (HE.out.keep HA.out.2.1)).mono ?_
      rintro e w1 ⟨rfl, hk1⟩
      have HK1 := Lib.hid (HA.out.2.1.trans hk1)
      clear hk1
      go_wp2_with fail
      go_ret
      exact ⟨by first | rfl | simp, HK1.out⟩
    · have hl2 : ¬ (60 : Int) < len0 := by omega
      have hl3 : (20 : Int) < len4 := by omega
      clear hl HR
      go_enter Tryd.func4, Tryd.ntmps4
      go_wp2_with fail
      rw [← HWA.out.1]
      refine (prooffirst_walk (HE.out.keep HA.out.2.1)).mono ?_
      rintro e w1 ⟨rfl, hk1⟩
      have HK1 := Lib.hid (HA.out.2.1.trans hk1)
      clear hk1
      go_wp2_with fail
      go_ret
      exact ⟨by first | rfl | simp, HK1.out⟩
  · have l0 : ¬ (60 : Int) < len0 := by omega
    have l4 : ¬ (20 : Int) < len4 := by omega
    clear hl
    go_enter Tryd.func4, Tryd.ntmps4
    go_wp2_with fail
    rw [← HWA.out.1]
    refine (prooffirst_walk (HE.out.keep HA.out.2.1)).mono ?_
    rintro e w1 ⟨rfl, hk1⟩
    have HK1 := Lib.hid (HA.out.2.1.trans hk1)
    have HB1 := Lib.hid (HA.out.1.keep0 hk1)
    have HG := Lib.hid HA.out.2.2
    clear hk1 HA
    go_wp2_with fail
    have HH := Lib.hid (hashes_walk (seqAt_make (cap := cap0) (HR.out.1.keep HK1.out)) rfl 40 (by omega))
    have HKS := Lib.hid ((Keeps.refl Nil w1).alloc (.cells #[.slice a0 len0 cap0, .int .i64 0] 40))
    refine HH.out.mono ?_
    rintro e w2 ⟨ah, ch, L, rfl, hO, hA, hL, hk2, hf⟩
    have hk12 : Keeps Nil w1 w2 := HKS.out.step hk2 (fun i hi => .inr (by rw [show i = w1.heap.size from hi]; exact Nat.le_refl _))
    have HK2 := Lib.hid (HK1.out.trans hk12)
    have HB2 := Lib.hid (HB1.out.keep0 hk12)
    have HHs := Lib.hid (Hs.own hO hA (by omega))
    have hcn := hO.2.1
    have hcx := hO.2.2.1
    unfold maxLen at hcx
    clear HH hO hf hk2 HK1 hk12 HKS HB1
    generalize hn : L.length = n at *
    have HN := Lib.hid hn
    clear hn
    go_wp2_with fail
    have HH := Lib.hid (hashes_walk (seqAt_make (cap := cap4) (HR.out.2.keep HK2.out)) rfl 8 (by omega))
    have HKS := Lib.hid ((Keeps.refl Nil w2).alloc (.cells #[.slice a4 len4 cap4, .int .i64 0] 40))
    refine HH.out.mono ?_
    rintro e w3 ⟨am, cm, M, rfl, hOm, hAm, hM, hk3, _⟩
    have hk23 : Keeps Nil w2 w3 := HKS.out.step hk3 (fun i hi => .inr (by rw [show i = w2.heap.size from hi]; exact Nat.le_refl _))
    have HK3 := Lib.hid (HK2.out.trans hk23)
    have HB3 := Lib.hid (HB2.out.keep0 hk23)
    have HH3 := Lib.hid (HHs.out.keep0 hk23)
    have HM3 := Lib.hid (Hs.own hOm hAm (by omega))
    have hcm := hOm.2.1
    have hcmx := hOm.2.2.1
    unfold maxLen at hcmx
    clear HH hOm hk3 HK2 hk23 HKS HB2 HHs HR hA hAm
    generalize hnm : M.length = nm at *
    have HNM := Lib.hid hnm
    clear hnm
    go_wp2_with fail
    refine (number_walk n1 45 w3 hw1.1 hw1.2 (by omega) (by omega)).mono ?_
    rintro e w4 ⟨rfl, rfl⟩
    have hi0 := Int.emod_nonneg n1 (show (45 : Int) ≠ 0 by omega)
    have hi9 := Int.emod_lt_of_pos n1 (show (0 : Int) < 45 by omega)
    generalize n1 % 45 = i1 at *
    go_wp2_with fail
    refine (number_walk n2 60 w3 hw2.1 hw2.2 (by omega) (by omega)).mono ?_
    rintro e w4 ⟨rfl, rfl⟩
    have hn0 := Int.emod_nonneg n2 (show (60 : Int) ≠ 0 by omega)
    have hn9 := Int.emod_lt_of_pos n2 (show (0 : Int) < 60 by omega)
    generalize n2 % 60 = i2 at *
    clear hw1 hw2
    obtain ⟨w5, hw5⟩ : ∃ x, x = w3 := ⟨_, rfl⟩
    subst hw5
    go_upto_if 53 with fail
    go_cut [2] from 53 to 53 (fun s2 wx => w5 = wx ∧ ∃ N : Int, s2 = .int .i64 N ∧ -2 ≤ N ∧ N ≤ 1048577)
    case first =>
      by_cases h50 : i2 - 2 = 50
      · have h50b : (i2 - 2 == 50) = true := by simpa using h50
        go_wp2_with fail
        go_meet
        exact ⟨rfl, 1048577, rfl, by omega, by omega⟩
      · have h50b : (i2 - 2 == 50) = false := by simpa using h50
        go_wp2_with fail
        go_meet
        exact ⟨rfl, i2 - 2, rfl, by omega, by omega⟩
    case rest =>
    obtain ⟨rfl, N, rfl, hN0, hN9⟩ := hcut
    obtain ⟨iI, hiI⟩ : ∃ q : Int, q = i1 - 2 := ⟨_, rfl⟩
    have HI := Lib.hid hiI
    have hI0 : -2 ≤ iI := by omega
    have hI9 : iI ≤ 45 := by omega
    clear hiI
    rw [← HI.out]
    have HE5 := Lib.hid (fun w' (hk : Keeps Nil w5 w') => HE.out.keep (HK3.out.trans hk))
    have HP1 := Lib.hid (pathAny_walk (i := iI) (cap := ch) (HE5.out _ (Keeps.refl _ _)) HN.out HH3.out hcn (by omega) (by omega))
    go_wp2_with fail
    refine HP1.out.mono ?_
    rintro e w6 ⟨aa, ca, rfl, hoa, qk⟩
    have HP2 := Lib.hid (refPathAny_walk (i := iI) (cap := ch) HN.out (HH3.out.keep0 qk) hcn (by omega))
    have HK6 := Lib.hid qk
    have HPA := Lib.hid (pathI_are (i := iI) HH3.out.are)
    have hPl := pathI_len iI L
    rw [HN.out] at hPl
    have HOA := Lib.hid hoa
    clear qk HP1 hoa
    generalize pathI iI L = P at *
    unfold OwnH at HOA
    generalize hnp : P.length = np at *
    have HNP := Lib.hid hnp
    clear hnp
    go_wp2_with fail
    refine HP2.out.mono ?_
    rintro e w7 ⟨ab, cb, rfl, hob, qk⟩
    unfold OwnH at hob
    rw [HNP.out] at hob ⊢
    have HB7 := Lib.hid (Hs.own hob HPA.out (by rw [HNP.out]; omega))
    have HA7 := Lib.hid (Hs.own (HOA.out.keep0 qk) HPA.out (by rw [HNP.out]; omega))
    have hcb := hob.2.1
    have hcbx := hob.2.2.1
    unfold maxLen at hcbx
    have HK7 := Lib.hid (HK6.out.trans qk)
    clear qk hob HP2 HK6 HOA
    have HSH := Lib.hid (sameHashes_walk (ca := ca) (cb := cb) HNP.out HA7.out HB7.out)
    have hcase : (inI iI n = true ∧ errO p (pathEI iI n) = .nilIface) ∨ (inI iI n = false ∧ errO p (pathEI iI n) = errV p 1) := by
      by_cases hin : 0 ≤ iI ∧ iI < n
      · exact .inl ⟨decide_eq_true hin, by unfold pathEI; rw [if_pos hin]; rfl⟩
      · exact .inr ⟨decide_eq_false hin, by unfold pathEI; rw [if_neg hin]; rfl⟩
    have HCS := Lib.hid hcase
    clear hcase
    generalize inI iI n = bv at *
    generalize errO p (pathEI iI n) = ev at *
    go_upto_region 14 with fail
    go_cut [84] from 66 to 84 (fun s84 wx => s84 = .bool false ∧ Keeps Nil w7 wx)
    case first =>
      rcases HCS.out with ⟨rfl, rfl⟩ | ⟨rfl, rfl⟩
      · clear HCS
        go_wp2_with fail
        refine HSH.out.mono ?_
        rintro e w8 ⟨rfl, qk⟩
        go_wp2_with fail
        go_meet
        exact ⟨rfl, qk⟩
      · clear HCS
        have HI1 := Lib.hid (fun w' (hk : Keeps Nil w5 w') => is_walk (HE5.out w' hk) (v := errV p 1) (c := 102) (pl := false) (q := 0) (.inr (.inl ⟨1, by omega, rfl, by omega, rfl, rfl⟩)) 102)
        rw [show isV 102 false 0 102 = true by simp [isV, sameF]] at HI1
        unfold errV at *
        go_wp2_with fail
        refine HSH.out.mono ?_
        rintro e w8 ⟨rfl, qk⟩
        go_wp2_with fail
        refine (HI1.out _ (HK7.out.trans qk)).mono ?_
        rintro e w9 ⟨rfl, qk2⟩
        go_wp2_with fail
        go_meet
        exact ⟨rfl, qk.trans qk2⟩
    case rest =>
    obtain ⟨rfl, hk8⟩ := hcut
    obtain ⟨wo, hwo⟩ : ∃ x, x = wc := ⟨_, rfl⟩
    subst hwo
    have HK8 := Lib.hid (HK7.out.trans hk8)
    have HB8 := Lib.hid (HB7.out.keep0 hk8)
    have HM8 := Lib.hid (HM3.out.keep0 HK8.out)
    have HL8 := Lib.hid (HH3.out.keep0 HK8.out)
    have HX8 := Lib.hid (HB3.out.keep0 HK8.out)
    clear hk8 HK7 HB7 HA7 HSH HM3 HH3 HB3
    have hUH := Tryd.undH
    have hX32 : (byteV X).length = 32 := by rw [byteV_len]; exact hX.1
    have hiX : (Tryd.prog.info? 26).map (·.size) = some (byteV X).length := by rw [hX32]; exact Tryd.infoH
    have hRl := rootL_is HL8.out.are
    have HRT := Lib.hid (fun w' (hk : Keeps Nil wo w') => refRoot_walk n (cap := ch) HN.out (HL8.out.keep0 hk) hcn (by omega))
    have hzv := Tryd.zeroH32
    have HZ := Lib.hid (show (byteV z32).length = 32 by rw [byteV_len, z32_len])
    generalize byteV z32 = Z at *
    generalize rootL L = R at *
    have hR2 : Hash32 R := hRl
    have hR32 : (byteV R).length = 32 := by rw [byteV_len]; exact hR2.1
    have hiR : (Tryd.prog.info? 26).map (·.size) = some (byteV R).length := by rw [hR32]; exact Tryd.infoH
    have hoR := byteV_one R
    clear hRl
    go_wp2_with fail
    go_loopw [18, 19, 20, 21, 22, 23, 24, 25] (fun vk _ _ _ _ _ _ _ wr => ∃ k : Nat, k ≤ 2 ∧ vk = .int .i64 k ∧ Hid (Keeps Nil wo wr)) (fun vk _ _ _ _ _ _ _ _ => 2 - (intOf vk).toNat)
    case atStart => exact ⟨0, by omega, rfl, Lib.hid (Keeps.refl _ _)⟩
    case round =>
      obtain ⟨k, hk, rfl, hkr⟩ := hrel
      by_cases hk2 : k < 2
      · have hk3 : (k : Int) < 2 := by omega
        have hk0 : (0 : Int) ≤ k := by omega
        obtain ⟨wq, hwq⟩ : ∃ x, x = wr := ⟨_, rfl⟩
        subst hwq
        go_upto_if 92 with fail
        go_cut [19, 20] from 85 to 138 (fun s19 s20 wx => wq = wx ∧ ∃ (a : Option Addr) (c m : Nat) (Q : List (List Int)) (M : Int), s19 = .slice a m c ∧ s20 = .int .i64 M ∧ m ≤ c ∧ c ≤ 9223372036854775807 ∧ Hid (Q.length = m) ∧ Hid (Hs wo a Q))
        case first =>
          by_cases h1 : k = 1
          · subst h1
            go_wp2_with fail
            go_meet
            exact ⟨rfl, ab, cb, np, P, n, rfl, rfl, hcb, by omega, HNP, HB8⟩
          · have h0 : k = 0 := by omega
            subst h0
            go_wp2_with fail
            go_meet
            exact ⟨rfl, am, cm, nm, M, N, rfl, rfl, hcm, by omega, HNM, HM8⟩
        case rest =>
        obtain ⟨rfl, aQ, cQ, m, Q, mm, rfl, rfl, hmc, hcQ, HNQ, HQ⟩ := hcut
        have HUp := Lib.hid (fun w' (hk : Keeps Nil wo w') => upBig_walk (X := X) (i := iI) (n := mm) (P := Q) (m := m) (cap := cQ) (a := aQ) (HE5.out w' (HK8.out.trans hk)) HNQ.out (HQ.out.keep0 hk) hmc hcQ hX)
        have HRUp := Lib.hid (fun w' (hk : Keeps Nil wo w') => refUp_walk (X := X) (i := iI) (n := mm) (P := Q) (m := m) (cap := cQ) (a := aQ) HNQ.out (HQ.out.keep0 hk) hmc hcQ hX)
        have HCk := Lib.hid (fun w' (hk : Keeps Nil wo w') => check_walk (R := R) (X := X) (i := iI) (n := mm) (P := Q) (m := m) (cap := cQ) (a := aQ) (HE5.out w' (HK8.out.trans hk)) HNQ.out (HQ.out.keep0 hk) hmc hcQ hR2 hX)
        have HRCk := Lib.hid (fun w' (hk : Keeps Nil wo w') => refCheck_walk (R := R) (X := X) (i := iI) (n := mm) (P := Q) (m := m) (cap := cQ) (a := aQ) HNQ.out (HQ.out.keep0 hk) hmc hcQ hR2 hX)
        have HIO := Lib.hid (fun w' (hk : Keeps Nil wo w') (o : Option Nat) (h : ∀ k, o = some k → k < 19) => is_walk (HE5.out w' (HK8.out.trans hk)) (isErr_O o h) (codeO o))
        have hV2 := upV_is hX iI mm Q
        have hel := Lib.hid (fun k (h : upE iI mm Q.length = some k) => upE_lt h)
        have hcl := Lib.hid (fun k (h : chkE R X iI mm Q = some k) => chkE_lt h)
        unfold UpPost keyV at HUp
        unfold RUpPost keyV at HRUp
        unfold ChkPost keyV at HCk
        unfold RChkPost keyV at HRCk
        have HRT2 := HRT
        unfold keyV at HRT2
        generalize upV X iI mm Q = V at *
        generalize upE iI mm Q.length = E at *
        generalize chkE R X iI mm Q = CE at *
        have hV32 : (byteV V).length = 32 := by rw [byteV_len]; exact hV2.1
        have hiV : (Tryd.prog.info? 26).map (·.size) = some (byteV V).length := by rw [hV32]; exact Tryd.infoH
        have hoV := byteV_one V
        have hb8 := HX8.out.keep0 hkr.out
        rw [HWA.out.2] at hb8
        go_wp2_with (refine wpl_load rfl 26 _ rfl w.heap.size rfl hb8 _ hUH rfl hiX ?_)
        go_wp2_with fail
        refine (HUp.out _ hkr.out).mono ?_
        rintro e w10 ⟨rfl, qk⟩
        have hbN := Blk.new w10 Z 26
        have hka := (Keeps.refl Nil w10).alloc (.cells Z.toArray 26)
        have HK10 := Lib.hid ((hkr.out.trans qk).trans hka)
        have hb10 := (hb8.keep0 qk).keep0 hka
        have hn10 : w.heap.size ≠ w10.heap.size := by have := (hb8.keep0 qk).lt; omega
        have hs10 : wo.heap.size ≤ w10.heap.size := (hkr.out.trans qk).size
        clear qk hka hb8
        go_wp2_with (refine wpl_store rfl 26 _ _ rfl w10.heap.size rfl (byteV V) rfl hbN (by rw [hV32, HZ.out]) hiV hoV ?_)
        intro w11 hb21 hk11 _
        have HK11 := Lib.hid (HK10.out.step hk11 (fun i hi => .inr (by rw [show i = w10.heap.size from hi]; exact hs10)))
        have hb11 := hb10.keep hk11 hn10
        clear hk11 HK10 hb10 hbN
        generalize w10.heap.size = g21 at *
        go_wp2_with (refine wpl_load rfl 26 _ rfl w.heap.size rfl hb11 _ hUH rfl hiX ?_)
        go_wp2_with fail
        refine (HRUp.out _ HK11.out).mono ?_
        rintro e w12 ⟨rfl, qk⟩
        have hbN := Blk.new w12 Z 26
        have hka := (Keeps.refl Nil w12).alloc (.cells Z.toArray 26)
        have HK12 := Lib.hid ((HK11.out.trans qk).trans hka)
        have hb12 := (hb11.keep0 qk).keep0 hka
        have hc12 := (hb21.keep0 qk).keep0 hka
        have hn12 : w.heap.size ≠ w12.heap.size := by have := (hb11.keep0 qk).lt; omega
        have hm12 : g21 ≠ w12.heap.size := by have := (hb21.keep0 qk).lt; omega
        have hs12 : wo.heap.size ≤ w12.heap.size := (HK11.out.trans qk).size
        clear qk hka hb11 hb21 hn10 hs10
        go_wp2_with (refine wpl_store rfl 26 _ _ rfl w12.heap.size rfl (byteV V) rfl hbN (by rw [hV32, HZ.out]) hiV hoV ?_)
        intro w13 hb23 hk13 _
        have HK13 := Lib.hid (HK12.out.step hk13 (fun i hi => .inr (by rw [show i = w12.heap.size from hi]; exact hs12)))
        have hb13 := hb12.keep hk13 hn12
        have hc13 := hc12.keep hk13 hm12
        clear hk13 HK12 hb12 hc12 hbN HK11
        generalize w12.heap.size = g23 at *
        go_wp2_with fail
        refine (HRT2.out _ HK13.out).mono ?_
        rintro e w14 ⟨rfl, qk⟩
        have hbN := Blk.new w14 Z 26
        have hka := (Keeps.refl Nil w14).alloc (.cells Z.toArray 26)
        have HK14 := Lib.hid ((HK13.out.trans qk).trans hka)
        have hb14 := (hb13.keep0 qk).keep0 hka
        have hc14 := (hc13.keep0 qk).keep0 hka
        have hd14 := (hb23.keep0 qk).keep0 hka
        have hn14 : w.heap.size ≠ w14.heap.size := by have := (hb13.keep0 qk).lt; omega
        have hm14 : g21 ≠ w14.heap.size := by have := (hc13.keep0 qk).lt; omega
        have ho14 : g23 ≠ w14.heap.size := by have := (hb23.keep0 qk).lt; omega
        have hs14 : wo.heap.size ≤ w14.heap.size := (HK13.out.trans qk).size
        clear qk hka hb13 hc13 hb23 hn12 hm12 hs12
        go_wp2_with (refine wpl_store rfl 26 _ _ rfl w14.heap.size rfl (byteV R) rfl hbN (by rw [hR32, HZ.out]) hiR hoR ?_)
        intro w15 hb25 hk15 _
        have HK15 := Lib.hid (HK14.out.step hk15 (fun i hi => .inr (by rw [show i = w14.heap.size from hi]; exact hs14)))
        have hb15 := hb14.keep hk15 hn14
        have hc15 := hc14.keep hk15 hm14
        have hd15 := hd14.keep hk15 ho14
        clear hk15 HK14 hb14 hc14 hd14 hbN HK13 hn14 hm14 ho14 hs14
        generalize w14.heap.size = g25 at *
        have hqN := fun w => Tryd.neqDig hV2.1 hV2.1 hV2.2 hV2.2 w
        rw [bne_self_eq_false] at hqN
        have hgN := Tryd.guardH2
        go_wp2_with fail
        refine wp_region_held_drew (S := fun w' => Keeps Nil w15.drew w') (by kernel_rfl) (Keeps.refl _ _) (fun hHeld => ?_)
        have hKB : Keeps Nil w15.drew w15.drew := Keeps.refl _ _
        have HKz := Lib.hid HK15.out.drew
        replace hb15 := hb15.drew
        replace hc15 := hc15.drew
        replace hd15 := hd15.drew
        replace hb25 := hb25.drew
        generalize w15.drew = v0 at *
        refine takeL (i := 0) (v := _) rfl (by kernel_rfl) (by kernel_rfl) (by kernel_rfl) (fun _ _ _ h => h) (yieldsIf_load_mid (by rfl) 26 _ rfl g21 0 rfl (byteV V) _ (fun w hSw => ((hc15.keep0 hSw).range0)) hUH rfl hiV) (by assumption) ?_
        try simp only [Act.put, List.setIfInBounds_toArray, List.set_cons_zero, List.set_cons_succ]
        refine takeL (i := 1) (v := _) rfl (by kernel_rfl) (by kernel_rfl) (by kernel_rfl) (fun _ _ _ h => h) (yieldsIf_load_mid (by rfl) 26 _ rfl g23 0 rfl (byteV V) _ (fun w hSw => ((hd15.keep0 hSw).range0)) hUH rfl hiV) (by assumption) ?_
        try simp only [Act.put, List.setIfInBounds_toArray, List.set_cons_zero, List.set_cons_succ]
        refine takeL (i := 2) (v := _) rfl (by kernel_rfl) (by kernel_rfl) (by kernel_rfl) (fun _ _ _ h => h) (yieldsIf_bin (by rfl) _ _ _ _ _ rfl _ _ rfl rfl _ hqN (hgN _ _ _ _ _)) (by assumption) ?_
        try simp only [Act.put, List.setIfInBounds_toArray, List.set_cons_zero, List.set_cons_succ]
        refine takeL (i := 3) (v := _) rfl (by kernel_rfl) (by kernel_rfl) (by kernel_rfl) (fun _ _ _ h => h) (Or.inl ⟨by rfl, by intro w hSw; (try dsimp only at hSw); go_simp; try with_reducible rfl⟩) (by assumption) ?_
        try simp only [Act.put, List.setIfInBounds_toArray, List.set_cons_zero, List.set_cons_succ]
        refine takeL (i := 4) (v := _) rfl (by kernel_rfl) (by kernel_rfl) (by kernel_rfl) (fun _ _ _ h => h) (Or.inl ⟨by rfl, by intro w hSw; (try dsimp only at hSw); go_simp; try with_reducible rfl⟩) (by assumption) ?_
        try simp only [Act.put, List.setIfInBounds_toArray, List.set_cons_zero, List.set_cons_succ]
        refine takeL (i := 5) (v := _) rfl (by kernel_rfl) (by kernel_rfl) (by kernel_rfl) (fun _ _ _ h => h) (Or.inl ⟨by rfl, by intro w hSw; (try dsimp only at hSw); go_simp; try with_reducible rfl⟩) (by assumption) ?_
        try simp only [Act.put, List.setIfInBounds_toArray, List.set_cons_zero, List.set_cons_succ]
        refine onlyL (i := 6) rfl (by kernel_rfl) (fun K hK => ?_)
        go_simp
        refine (HIO.out _ (HKz.out.trans hKB) E hel.out).mono ?_
        rintro e w16 ⟨rfl, qk⟩
        rw [isV_O]
        replace hKB := hKB.trans qk
        clear qk
        refine (fun hHeld => hK _ _ hHeld ?_) (hKB)
        clear hK
        try simp only [Act.put, List.setIfInBounds_toArray, List.set_cons_zero, List.set_cons_succ]
        refine takeL (i := 7) (v := _) rfl (by kernel_rfl) (by kernel_rfl) (by kernel_rfl) (fun _ _ _ h => h) (Or.inl ⟨by rfl, by intro w hSw; (try dsimp only at hSw); go_simp; try with_reducible rfl⟩) (by assumption) ?_
        try simp only [Act.put, List.setIfInBounds_toArray, List.set_cons_zero, List.set_cons_succ]
        refine takeL (i := 8) (v := _) rfl (by kernel_rfl) (by kernel_rfl) (by kernel_rfl) (fun _ _ _ h => h) (Or.inl ⟨by rfl, by intro w hSw; (try dsimp only at hSw); go_simp; try with_reducible rfl⟩) (by assumption) ?_
        try simp only [Act.put, List.setIfInBounds_toArray, List.set_cons_zero, List.set_cons_succ]
        refine takeL (i := 9) (v := _) rfl (by kernel_rfl) (by kernel_rfl) (by kernel_rfl) (fun _ _ _ h => h) (Or.inl ⟨by rfl, by intro w hSw; (try dsimp only at hSw); go_simp; try with_reducible rfl⟩) (by assumption) ?_
        try simp only [Act.put, List.setIfInBounds_toArray, List.set_cons_zero, List.set_cons_succ]
        refine takeL (i := 10) (v := _) rfl (by kernel_rfl) (by kernel_rfl) (by kernel_rfl) (fun _ _ _ h => h) (yieldsIf_load_mid (by rfl) 26 _ rfl g25 0 rfl (byteV R) _ (fun w hSw => ((hb25.keep0 hSw).range0)) hUH rfl hiR) (by assumption) ?_
        try simp only [Act.put, List.setIfInBounds_toArray, List.set_cons_zero, List.set_cons_succ]
        refine takeL (i := 11) (v := _) rfl (by kernel_rfl) (by kernel_rfl) (by kernel_rfl) (fun _ _ _ h => h) (yieldsIf_load_mid (by rfl) 26 _ rfl w.heap.size 0 rfl (byteV X) _ (fun w hSw => ((hb15.keep0 hSw).range0)) hUH rfl hiX) (by assumption) ?_
        try simp only [Act.put, List.setIfInBounds_toArray, List.set_cons_zero, List.set_cons_succ]
        refine takeL (i := 12) (v := _) rfl (by kernel_rfl) (by kernel_rfl) (by kernel_rfl) (fun _ _ _ h => h) (Or.inl ⟨by rfl, by intro w hSw; (try dsimp only at hSw); go_simp; try with_reducible rfl⟩) (by assumption) ?_
        try simp only [Act.put, List.setIfInBounds_toArray, List.set_cons_zero, List.set_cons_succ]
        refine takeL (i := 13) (v := _) rfl (by kernel_rfl) (by kernel_rfl) (by kernel_rfl) (fun _ _ _ h => h) (Or.inl ⟨by rfl, by intro w hSw; (try dsimp only at hSw); go_simp; try with_reducible rfl⟩) (by assumption) ?_
        try simp only [Act.put, List.setIfInBounds_toArray, List.set_cons_zero, List.set_cons_succ]
        refine takeL (i := 14) (v := _) rfl (by kernel_rfl) (by kernel_rfl) (by kernel_rfl) (fun _ _ _ h => h) (Or.inl ⟨by rfl, by intro w hSw; (try dsimp only at hSw); go_simp; try with_reducible rfl⟩) (by assumption) ?_
        try simp only [Act.put, List.setIfInBounds_toArray, List.set_cons_zero, List.set_cons_succ]
        refine takeL (i := 16) (v := _) rfl (by kernel_rfl) (by kernel_rfl) (by kernel_rfl) (fun _ _ _ h => h) (yieldsIf_load_mid (by rfl) 26 _ rfl g25 0 rfl (byteV R) _ (fun w hSw => ((hb25.keep0 hSw).range0)) hUH rfl hiR) (by assumption) ?_
        try simp only [Act.put, List.setIfInBounds_toArray, List.set_cons_zero, List.set_cons_succ]
        refine takeL (i := 17) (v := _) rfl (by kernel_rfl) (by kernel_rfl) (by kernel_rfl) (fun _ _ _ h => h) (yieldsIf_load_mid (by rfl) 26 _ rfl w.heap.size 0 rfl (byteV X) _ (fun w hSw => ((hb15.keep0 hSw).range0)) hUH rfl hiX) (by assumption) ?_
        try simp only [Act.put, List.setIfInBounds_toArray, List.set_cons_zero, List.set_cons_succ]
        refine takeL (i := 18) (v := _) rfl (by kernel_rfl) (by kernel_rfl) (by kernel_rfl) (fun _ _ _ h => h) (Or.inl ⟨by rfl, by intro w hSw; (try dsimp only at hSw); go_simp; try with_reducible rfl⟩) (by assumption) ?_
        try simp only [Act.put, List.setIfInBounds_toArray, List.set_cons_zero, List.set_cons_succ]
        refine takeL (i := 19) (v := _) rfl (by kernel_rfl) (by kernel_rfl) (by kernel_rfl) (fun _ _ _ h => h) (Or.inl ⟨by rfl, by intro w hSw; (try dsimp only at hSw); go_simp; try with_reducible rfl⟩) (by assumption) ?_
        try simp only [Act.put, List.setIfInBounds_toArray, List.set_cons_zero, List.set_cons_succ]
        refine takeL (i := 20) (v := _) rfl (by kernel_rfl) (by kernel_rfl) (by kernel_rfl) (fun _ _ _ h => h) (Or.inl ⟨by rfl, by intro w hSw; (try dsimp only at hSw); go_simp; try with_reducible rfl⟩) (by assumption) ?_
        try simp only [Act.put, List.setIfInBounds_toArray, List.set_cons_zero, List.set_cons_succ]
        refine onlyL (i := 15) rfl (by kernel_rfl) (fun K hK => ?_)
        go_simp
        refine (HCk.out _ (HKz.out.trans hKB)).mono ?_
        rintro e w17 ⟨rfl, qk⟩
        replace hKB := hKB.trans qk
        clear qk
        refine (fun hHeld => hK _ _ hHeld ?_) (hKB)
        clear hK
        try simp only [Act.put, List.setIfInBounds_toArray, List.set_cons_zero, List.set_cons_succ]
        refine onlyL (i := 21) rfl (by kernel_rfl) (fun K hK => ?_)
        go_simp
        refine (HRCk.out _ (HKz.out.trans hKB)).mono ?_
        rintro e w18 ⟨rfl, qk⟩
        replace hKB := hKB.trans qk
        clear qk
        refine (fun hHeld => hK _ _ hHeld ?_) (hKB)
        clear hK
        try simp only [Act.put, List.setIfInBounds_toArray, List.set_cons_zero, List.set_cons_succ]
        refine onlyL (i := 22) rfl (by kernel_rfl) (fun K hK => ?_)
        go_simp
        refine (HIO.out _ (HKz.out.trans hKB) CE hcl.out).mono ?_
        rintro e w19 ⟨rfl, qk⟩
        rw [isV_O]
        replace hKB := hKB.trans qk
        clear qk
        refine (fun hHeld => hK _ _ hHeld ?_) (hKB)
        clear hK
        try simp only [Act.put, List.setIfInBounds_toArray, List.set_cons_zero, List.set_cons_succ]
        refine takeL (i := 23) (v := _) rfl (by kernel_rfl) (by kernel_rfl) (by kernel_rfl) (fun _ _ _ h => h) (Or.inl ⟨by rfl, by intro w hSw; (try dsimp only at hSw); go_simp; try with_reducible rfl⟩) (by assumption) ?_
        try simp only [Act.put, List.setIfInBounds_toArray, List.set_cons_zero, List.set_cons_succ]
        refine takeL (i := 24) (v := _) rfl (by kernel_rfl) (by kernel_rfl) (by kernel_rfl) (fun _ _ _ h => h) (Or.inl ⟨by rfl, by intro w hSw; (try dsimp only at hSw); go_simp; try with_reducible rfl⟩) (by assumption) ?_
        try simp only [Act.put, List.setIfInBounds_toArray, List.set_cons_zero, List.set_cons_succ]
        refine wpAnyH_done (by kernel_rfl) ?_ _
        have HFF := Lib.hid (HKz.out.trans hKB)
        clear hKB hHeld
        go_wp2_with fail
        first | exact ⟨⟨k + 1, by omega, by go_num, HFF⟩, by first | (simp [intOf]; done) | (simp [intOf]; omega)⟩ | (go_roundw; case rel => first | exact ⟨k + 1, by omega, by go_num, HFF⟩ | ((repeat apply Exists.intro); exact ⟨⟨k + 1, by omega, by go_num, HFF⟩, rfl⟩); case measure => first | (simp [intOf]; done) | (simp [intOf]; omega))
      · have hk3 : k = 2 := by omega
        subst hk3
        have HFF := Lib.hid (HK3.out.trans (HK8.out.trans hkr.out))
        go_wp2_with fail
        go_ret
        exact ⟨by first | rfl | simp, HFF.out⟩
end Go.Proofs.YtmbdldnldcgdjaaDoor
