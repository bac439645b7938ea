/-
  Floats as text: fmtEFG without an exponent.
-/
import Derived.Test.YtmlfekcnpmlfkaaDoorFt6
namespace Go.Proofs.YtmlfekcnpmlfkaaDoor
set_option linter.unusedSimpArgs false
set_option linter.unusedVariables false
open Go.RowKit

set_option maxRecDepth 20000 in
set_option maxHeartbeats 3200000 in
theorem fmtF_walk {w0 w : World} {g : Nat} {L : List Int} {T : TypeId} {a : Option Addr} {c n : Nat} {X : List Int} (h : Buf w0 w g L T a c n X) (hL : L.length = 32) (hn : n ≤ 1000) (neg : Bool) (nd : Nat) (hnd : nd ≤ 20) (dp : Int) (hF1 : ¬ dp - 1 < -4) (hF2 : ¬ 6 ≤ dp - 1) :
    Calls Tryd.prog 47 #[.slice a n c, .bool neg, .slice (some ⟨g, 0, none⟩) 32 32, .int .i64 dp, .int .i64 nd, .int .i64 nd, .int .u8 103, .bool true] w (FmtP w0 X (textF neg L nd dp) n) := by
  have HB := Lib.hid h
  have HL := Lib.hid hL
  have hx1d : decide (dp - 1 < -4) = false := decide_eq_false hF1
  have hx2d : decide (6 ≤ dp - 1) = false := decide_eq_false hF2
  have hEw : IntKind.i64.wrap (dp - 1) = dp - 1 := by rw [IntKind.wrap_i64]; omega
  obtain ⟨P1, hP1⟩ : ∃ P1 : List Int, P1 = if neg then [45] else [] := ⟨_, rfl⟩
  have HP1 := Lib.hid hP1
  clear h hL
  by_cases h0 : 0 < dp
  · obtain ⟨D, hD⟩ : ∃ D : Nat, dp = (D : Int) := ⟨dp.toNat, by omega⟩
    subst hD
    have hDb : 1 ≤ D ∧ D ≤ 6 := by omega
    have h0d : decide (0 < (D : Int)) = true := decide_eq_true h0
    have h0n : decide (0 < D) = true := decide_eq_true (by omega)
    obtain ⟨MI, hMI⟩ : ∃ MI, MI = min nd D := ⟨_, rfl⟩
    obtain ⟨PR, hPR⟩ : ∃ PR, PR = nd - D := ⟨_, rfl⟩
    obtain ⟨ZI, hZI⟩ : ∃ ZI, ZI = D - MI := ⟨_, rfl⟩
    obtain ⟨LZ, hLZ⟩ : ∃ LZ, LZ = 0 := ⟨_, rfl⟩
    obtain ⟨OF, hOF⟩ : ∃ OF, OF = D := ⟨_, rfl⟩
    obtain ⟨MM, hMM⟩ : ∃ MM, MM = PR := ⟨_, rfl⟩
    have hmin : min (nd : Int) (D : Int) = (MI : Int) := by omega
    have hmax : max ((nd : Int) - D) 0 = (PR : Int) := by omega
    have hzi : (D : Int) - MI = (ZI : Int) := by omega
    have hziw : IntKind.i64.wrap (ZI : Int) = (ZI : Int) := by rw [IntKind.wrap_i64]; omega
    have hsb : IntKind.i64.wrap ((nd : Int) - D) = (nd : Int) - D := by rw [IntKind.wrap_i64]; omega
    have hMI32 : (MI : Int) ≤ 32 := by omega
    have hMIb : MI ≤ 20 ∧ ZI ≤ 6 ∧ PR ≤ 20 := by omega
    have HTX : Hid (textF neg L nd D = P1 ++ ((L.take MI ++ List.replicate ZI 48) ++ if 0 < PR then [46] ++ (List.replicate LZ 48 ++ (L.drop OF).take MM) else [])) := Lib.hid (by
      unfold textF
      rw [← hP1, if_pos h0, show ((D : Int)).toNat = D from rfl, ← hMI, ← hZI]
      by_cases hp : 0 < PR
      · rw [if_pos hp, if_pos (by omega), hLZ, hOF, hMM, hPR, List.replicate_zero, List.nil_append, List.drop_take]
      · rw [if_neg hp, if_neg (by omega)])
    have hlz : min (PR : Int) (max 0 (-(D : Int))) = (LZ : Int) := by omega
    have hof : (D : Int) + LZ = (OF : Int) := by omega
    have hm1 : (PR : Int) - LZ = (PR : Int) := by omega
    have hm2 : min (PR : Int) (max 0 ((nd : Int) - OF)) = (MM : Int) := by omega
    have hm3 : max 0 ((PR : Int) - MM) = (0 : Int) := by omega
    have hofm : OF + MM ≤ 20 ∨ MM = 0 := by omega
    have hLZb : LZ ≤ 3 := by omega
    clear hP1 hMI hPR hZI hLZ hOF hMM
    by_cases hg : D < nd
    · have hgt : decide ((D : Int) < (nd : Int)) = true := decide_eq_true (by omega)
      have hgn : decide (D < nd) = true := decide_eq_true hg
      clear hg
      go_enter Tryd.func47, Tryd.ntmps47
      go_upto_if 178 with fail
      go_cut [0] from 179 to 181 (fun v0 wx => ∃ (a2 : Option Addr) (c2 n2 : Nat) (Z : List Int), v0 = .slice a2 n2 c2 ∧ Hid (n2 = n + P1.length) ∧ n2 ≤ 1001 ∧ Hid (Z = X ++ P1) ∧ Hid (Buf w0 wx g L T a2 c2 n2 Z))
      case first =>
        cases neg with
        | true =>
          go_wp2_with (first | (refine wpList_bs rfl 48 5 1 _ rfl [.int .u8 45] Tryd.underlying48 Tryd.bs8 rfl (by decide) (by decide) (by first | rfl | simp [Act.eval]) (by simp [Value.cells]) ?_) | (at_builtin; go_must (refine wpl_append rfl _ _ 48 rfl 5 1 1 Tryd.underlying48 Tryd.info8s (by omega) _ _ n _ rfl (HB.out.own.keep0 ((Keeps.refl _ _).alloc _)) _ 1 1 [.int .u8 45] rfl (Src.lit (Blk.new _ _ _) 1 rfl (by simp [Value.oneCell'])) (by unfold maxLen; omega) (by omega) ?_)))
          intro a2 c2 w2 hown2 hk2 hf2 _
          obtain ⟨Z2, hzz⟩ : ∃ z, z = X ++ [45] := ⟨_, rfl⟩
          have HB2 := Lib.hid (hzz ▸ HB.out.app [.int .u8 45] [45] rfl hown2 hk2 hf2)
          have EZ2 := Lib.hid hzz
          clear hown2 hk2 hf2 hzz
          go_wp2_with fail
          go_meet
          exact ⟨a2, c2, n + 1, Z2, rfl, Lib.hid (by rw [HP1.out]; rfl), by omega, Lib.hid (by rw [HP1.out]; exact EZ2.out), HB2⟩
        | false =>
          go_wp2_with fail
          go_meet
          exact ⟨a, c, n, X, rfl, Lib.hid (by rw [HP1.out]; rfl), by omega, Lib.hid (by rw [HP1.out]; simp), HB⟩
      case rest =>
      obtain ⟨a1, c1, n1, Z1, rfl, hn1, hn1b, EZ1, HB1⟩ := hcut
      clear HB
      go_wp2_with fail
      go_loopw [0, 191, 25] (fun v0 vc _ wr => ∃ (j : Nat) (aj : Option Addr) (cj nj : Nat) (Zj : List Int), v0 = .slice aj nj cj ∧ vc = .int .i64 j ∧ j ≤ MI ∧ Hid (nj = n1 + j) ∧ nj ≤ 1030 ∧ Hid (Zj = Z1 ++ L.take j) ∧ Hid (Buf w0 wr g L T aj cj nj Zj)) (fun _ vc _ _ => MI - (intOf vc).toNat)
      case atStart => exact ⟨0, a1, c1, n1, Z1, rfl, rfl, Nat.zero_le _, Lib.hid rfl, by omega, Lib.hid (by simp), HB1⟩
      case round =>
        obtain ⟨j, aj, cj, nj, Zj, rfl, rfl, hj, hnj, hnjb, EZj, HBj⟩ := hrel
        by_cases hjm : j < MI
        · have hji : (j : Int) < MI := by omega
          have hj0 : (0 : Int) ≤ j := by omega
          have hcl := HBj.out.blk.cell j (byteV_get HL.out (by omega))
          obtain ⟨ch, hch⟩ : ∃ ch, ch = L.getD j 0 := ⟨_, rfl⟩
          rw [← hch] at hcl
          have HCH := Lib.hid hch
          clear hch
          go_wp2_with (first | (refine wpList_bs rfl 48 5 1 _ rfl [.int .u8 ch] Tryd.underlying48 Tryd.bs8 rfl (by decide) (by decide) (by first | rfl | simp [Act.eval]) (by simp [Value.cells]) ?_) | (at_builtin; go_must (refine wpl_append rfl _ _ 48 rfl 5 1 1 Tryd.underlying48 Tryd.info8s (by omega) _ _ nj _ rfl (HBj.out.own.keep0 ((Keeps.refl _ _).alloc _)) _ 1 1 [.int .u8 ch] rfl (Src.lit (Blk.new _ _ _) 1 rfl (by simp [Value.oneCell'])) (by unfold maxLen; omega) (by omega) ?_)))
          intro ak ck wk hown2 hk2 hf2 _
          obtain ⟨Zk, hzz⟩ : ∃ z, z = Zj ++ [ch] := ⟨_, rfl⟩
          have HBk := Lib.hid (hzz ▸ HBj.out.app [.int .u8 ch] [ch] rfl hown2 hk2 hf2)
          have EZk := Lib.hid hzz
          clear hown2 hk2 hf2 hzz
          have EZn : Hid (Zk = Z1 ++ L.take (j + 1)) := Lib.hid (by
            rw [EZk.out, EZj.out, List.take_succ_eq_append_getElem (by rw [HL.out]; omega), List.append_assoc, HCH.out]
            congr 2
            have : j < L.length := by rw [HL.out]; omega
            simp [List.getD, this])
          have HNk : Hid (nj + 1 = n1 + (j + 1)) := Lib.hid (by have := hnj.out; omega)
          have hnkb : nj + 1 ≤ 1030 := by have := hnj.out; omega
          clear HBj hcl
          go_wp2_with fail
          go_roundw
          case rel => first | exact ⟨j + 1, ak, ck, nj + 1, Zk, by go_num, by go_num, by omega, HNk, hnkb, EZn, HBk⟩ | ((repeat apply Exists.intro); exact ⟨⟨j + 1, ak, ck, nj + 1, Zk, by go_num, by go_num, by omega, HNk, hnkb, EZn, HBk⟩, rfl⟩)
          case measure => first | (simp [intOf]; done) | (simp [intOf]; omega)
        · obtain rfl : j = MI := by omega
          have hji : ¬ (j : Int) < j := by omega
          go_wp2_with fail
          go_loopw [0, 203] (fun v0 vc wr => ∃ (i : Nat) (ai : Option Addr) (ci ni : Nat) (Zi : List Int), v0 = .slice ai ni ci ∧ vc = .int .i64 i ∧ i ≤ ZI ∧ Hid (ni = nj + i) ∧ ni ≤ 1040 ∧ Hid (Zi = Zj ++ List.replicate i 48) ∧ Hid (Buf w0 wr g L T ai ci ni Zi)) (fun _ vc _ => ZI - (intOf vc).toNat)
          case atStart => exact ⟨0, aj, cj, nj, Zj, rfl, rfl, Nat.zero_le _, Lib.hid rfl, by omega, Lib.hid (by simp), HBj⟩
          case round =>
            obtain ⟨i, ai, ci, ni, Zi, rfl, rfl, hi, hni, hnib, EZi, HBi⟩ := hrel
            by_cases hiz : i < ZI
            · have hii : (i : Int) < ZI := by omega
              go_wp2_with (first | (refine wpList_bs rfl 48 5 1 _ rfl [.int .u8 48] Tryd.underlying48 Tryd.bs8 rfl (by decide) (by decide) (by first | rfl | simp [Act.eval]) (by simp [Value.cells]) ?_) | (at_builtin; go_must (refine wpl_append rfl _ _ 48 rfl 5 1 1 Tryd.underlying48 Tryd.info8s (by omega) _ _ ni _ rfl (HBi.out.own.keep0 ((Keeps.refl _ _).alloc _)) _ 1 1 [.int .u8 48] rfl (Src.lit (Blk.new _ _ _) 1 rfl (by simp [Value.oneCell'])) (by unfold maxLen; omega) (by omega) ?_)))
              intro ak ck wk hown2 hk2 hf2 _
              obtain ⟨Zk, hzz⟩ : ∃ z, z = Zi ++ [48] := ⟨_, rfl⟩
              have HBk := Lib.hid (hzz ▸ HBi.out.app [.int .u8 48] [48] rfl hown2 hk2 hf2)
              have EZk := Lib.hid hzz
              clear hown2 hk2 hf2 hzz
              have EZn : Hid (Zk = Zj ++ List.replicate (i + 1) 48) := Lib.hid (by rw [EZk.out, EZi.out, List.replicate_succ', List.append_assoc])
              have HNk : Hid (ni + 1 = nj + (i + 1)) := Lib.hid (by have := hni.out; omega)
              have hnkb : ni + 1 ≤ 1040 := by have := hni.out; have := hnj.out; omega
              clear HBi
              go_wp2_with fail
              go_roundw
              case rel => first | exact ⟨i + 1, ak, ck, ni + 1, Zk, by go_num, by go_num, by omega, HNk, hnkb, EZn, HBk⟩ | ((repeat apply Exists.intro); exact ⟨⟨i + 1, ak, ck, ni + 1, Zk, by go_num, by go_num, by omega, HNk, hnkb, EZn, HBk⟩, rfl⟩)
              case measure => first | (simp [intOf]; done) | (simp [intOf]; omega)
            · obtain rfl : i = ZI := by omega
              have hii : ¬ (i : Int) < i := by omega
              obtain ⟨IP, hIP⟩ : ∃ IP, IP = L.take j ++ List.replicate i 48 := ⟨_, rfl⟩
              have EZq : Hid (Zi = Z1 ++ IP) := Lib.hid (by rw [EZi.out, EZj.out, hIP, List.append_assoc])
              have HNq : Hid (ni = n1 + IP.length) := Lib.hid (by rw [hIP, hni.out, hnj.out, List.length_append, List.length_take, List.length_replicate, HL.out]; omega)
              rw [← hIP] at HTX
              clear hIP EZi EZj hni hnj HBj
              have HBq := HBi
              clear HBi
              by_cases hp : PR = 0
              · subst hp
                have h00 : ¬ ((0 : Nat) : Int) > 0 := by omega
                rw [if_neg (show ¬ 0 < 0 by omega), List.append_nil] at HTX
                go_wp2_with fail
                go_ret
                exact fmt_end HBq.out (by rw [EZq.out, EZ1.out, HTX.out, List.append_assoc]) (by rw [HTX.out, HNq.out, hn1.out, List.length_append]; omega)
              · have hpi : (0 : Int) < PR := by omega
                rw [if_pos (show 0 < PR by omega)] at HTX
                go_wp2_with (first | (refine wpList_bs rfl 48 5 1 _ rfl [.int .u8 46] Tryd.underlying48 Tryd.bs8 rfl (by decide) (by decide) (by first | rfl | simp [Act.eval]) (by simp [Value.cells]) ?_) | (at_builtin; go_must (refine wpl_append rfl _ _ 48 rfl 5 1 1 Tryd.underlying48 Tryd.info8s (by omega) _ _ ni _ rfl (HBq.out.own.keep0 ((Keeps.refl _ _).alloc _)) _ 1 1 [.int .u8 46] rfl (Src.lit (Blk.new _ _ _) 1 rfl (by simp [Value.oneCell'])) (by unfold maxLen; omega) (by omega) ?_)))
                intro ad cd wd hown2 hk2 hf2 _
                obtain ⟨Zd, hzz⟩ : ∃ z, z = Zi ++ [46] := ⟨_, rfl⟩
                have HBd := Lib.hid (hzz ▸ HBq.out.app [.int .u8 46] [46] rfl hown2 hk2 hf2)
                have EZd := Lib.hid hzz
                clear hown2 hk2 hf2 hzz
                have hdb : ni + 1 ≤ 1041 := by omega
                clear HBq
                go_wp2_with fail
                go_loopw [0, 240] (fun v0 vc wr => ∃ (k : Nat) (ak : Option Addr) (ck nk : Nat) (Zk : List Int), v0 = .slice ak nk ck ∧ vc = .int .i64 k ∧ k ≤ LZ ∧ Hid (nk = ni + 1 + k) ∧ nk ≤ 1050 ∧ Hid (Zk = Zd ++ List.replicate k 48) ∧ Hid (Buf w0 wr g L T ak ck nk Zk)) (fun _ vc _ => LZ - (intOf vc).toNat)
                case atStart => exact ⟨0, ad, cd, ni + 1, Zd, rfl, rfl, Nat.zero_le _, Lib.hid rfl, by omega, Lib.hid (by simp), HBd⟩
                case round =>
                  obtain ⟨k, ak, ck, nk, Zk, rfl, rfl, hk, hnk, hnkb, EZk, HBk⟩ := hrel
                  by_cases hkz : k < LZ
                  · have hki : (k : Int) < LZ := by omega
                    go_wp2_with (first | (refine wpList_bs rfl 48 5 1 _ rfl [.int .u8 48] Tryd.underlying48 Tryd.bs8 rfl (by decide) (by decide) (by first | rfl | simp [Act.eval]) (by simp [Value.cells]) ?_) | (at_builtin; go_must (refine wpl_append rfl _ _ 48 rfl 5 1 1 Tryd.underlying48 Tryd.info8s (by omega) _ _ nk _ rfl (HBk.out.own.keep0 ((Keeps.refl _ _).alloc _)) _ 1 1 [.int .u8 48] rfl (Src.lit (Blk.new _ _ _) 1 rfl (by simp [Value.oneCell'])) (by unfold maxLen; omega) (by omega) ?_)))
                    intro am cm wm2 hown2 hk2 hf2 _
                    obtain ⟨Zm, hzz⟩ : ∃ z, z = Zk ++ [48] := ⟨_, rfl⟩
                    have HBm := Lib.hid (hzz ▸ HBk.out.app [.int .u8 48] [48] rfl hown2 hk2 hf2)
                    have EZm := Lib.hid hzz
                    clear hown2 hk2 hf2 hzz
                    have EZn : Hid (Zm = Zd ++ List.replicate (k + 1) 48) := Lib.hid (by rw [EZm.out, EZk.out, List.replicate_succ', List.append_assoc])
                    have HNm : Hid (nk + 1 = ni + 1 + (k + 1)) := Lib.hid (by have := hnk.out; omega)
                    have hnmb : nk + 1 ≤ 1050 := by have := hnk.out; omega
                    clear HBk
                    go_wp2_with fail
                    go_roundw
                    case rel => first | exact ⟨k + 1, am, cm, nk + 1, Zm, by go_num, by go_num, by omega, HNm, hnmb, EZn, HBm⟩ | ((repeat apply Exists.intro); exact ⟨⟨k + 1, am, cm, nk + 1, Zm, by go_num, by go_num, by omega, HNm, hnmb, EZn, HBm⟩, rfl⟩)
                    case measure => first | (simp [intOf]; done) | (simp [intOf]; omega)
                  · obtain rfl : k = LZ := by omega
                    have hki : ¬ (k : Int) < k := by omega
                    go_wp2_with fail
                    go_loopw [0, 247, 30] (fun v0 vc _ wr => ∃ (r : Nat) (ar : Option Addr) (cr nr : Nat) (Zr : List Int), v0 = .slice ar nr cr ∧ vc = .int .i64 r ∧ r ≤ MM ∧ Hid (nr = nk + r) ∧ nr ≤ 1080 ∧ Hid (Zr = Zk ++ (L.drop OF).take r) ∧ Hid (Buf w0 wr g L T ar cr nr Zr)) (fun _ vc _ _ => MM - (intOf vc).toNat)
                    case atStart => exact ⟨0, ak, ck, nk, Zk, rfl, rfl, Nat.zero_le _, Lib.hid rfl, by omega, Lib.hid (by simp), HBk⟩
                    case round =>
                      obtain ⟨r, ar, cr, nr, Zr, rfl, rfl, hr, hnr, hnrb, EZr, HBr⟩ := hrel
                      by_cases hrm : r < MM
                      · have hri : (r : Int) < MM := by omega
                        have hof2 : OF + r < 32 := by omega
                        have hofr : (OF : Int) + (r : Int) = ((OF + r : Nat) : Int) := by omega
                        obtain ⟨OR, hOR⟩ : ∃ q, q = OF + r := ⟨_, rfl⟩
                        rw [← hOR] at hofr hof2
                        have hofw : IntKind.i64.wrap (OR : Int) = (OR : Int) := by rw [IntKind.wrap_i64]; omega
                        have hor32 : (OR : Int) < 32 := by omega
                        have hcl := HBr.out.blk.cell OR (byteV_get HL.out (by omega))
                        obtain ⟨ch, hch⟩ : ∃ ch, ch = L.getD OR 0 := ⟨_, rfl⟩
                        rw [← hch] at hcl
                        have HCH := Lib.hid (And.intro hch hOR)
                        clear hch hOR
                        go_wp2_with (first | (refine wpList_bs rfl 48 5 1 _ rfl [.int .u8 ch] Tryd.underlying48 Tryd.bs8 rfl (by decide) (by decide) (by first | rfl | simp [Act.eval]) (by simp [Value.cells]) ?_) | (at_builtin; go_must (refine wpl_append rfl _ _ 48 rfl 5 1 1 Tryd.underlying48 Tryd.info8s (by omega) _ _ nr _ rfl (HBr.out.own.keep0 ((Keeps.refl _ _).alloc _)) _ 1 1 [.int .u8 ch] rfl (Src.lit (Blk.new _ _ _) 1 rfl (by simp [Value.oneCell'])) (by unfold maxLen; omega) (by omega) ?_)))
                        intro am cm wm2 hown2 hk2 hf2 _
                        obtain ⟨Zm, hzz⟩ : ∃ z, z = Zr ++ [ch] := ⟨_, rfl⟩
                        have HBm := Lib.hid (hzz ▸ HBr.out.app [.int .u8 ch] [ch] rfl hown2 hk2 hf2)
                        have EZm := Lib.hid hzz
                        clear hown2 hk2 hf2 hzz
                        have hlt : r < (L.drop OF).length := by rw [List.length_drop, HL.out]; have := HCH.out.2; omega
                        have hgd : (L.drop OF)[r] = ch := by
                          have hc2 := HCH.out.2
                          rw [HCH.out.1, hc2]
                          have : OF + r < L.length := by rw [HL.out]; omega
                          simp [List.getD, this]
                        have EZn : Hid (Zm = Zk ++ (L.drop OF).take (r + 1)) := Lib.hid (by rw [EZm.out, EZr.out, List.take_succ_eq_append_getElem hlt, hgd, List.append_assoc])
                        clear hlt hgd
                        have HNm : Hid (nr + 1 = nk + (r + 1)) := Lib.hid (by have := hnr.out; omega)
                        have hnmb : nr + 1 ≤ 1080 := by have := hnr.out; omega
                        clear HBr hcl
                        go_wp2_with fail
                        go_roundw
                        case rel => first | exact ⟨r + 1, am, cm, nr + 1, Zm, by go_num, by go_num, by omega, HNm, hnmb, EZn, HBm⟩ | ((repeat apply Exists.intro); exact ⟨⟨r + 1, am, cm, nr + 1, Zm, by go_num, by go_num, by omega, HNm, hnmb, EZn, HBm⟩, rfl⟩)
                        case measure => first | (simp [intOf]; done) | (simp [intOf]; omega)
                      · obtain rfl : r = MM := by omega
                        have hri : ¬ (r : Int) < r := by omega
                        have hlen : ((L.drop OF).take r).length = r := by rw [List.length_take, List.length_drop, HL.out]; omega
                        have HFN : Hid (FmtP w0 X (P1 ++ (IP ++ ([46] ++ (List.replicate k 48 ++ (L.drop OF).take r)))) n (.returned (.slice ar nr cr)) wr) := Lib.hid (fmt_end HBr.out (by rw [EZr.out, EZk.out, EZd.out, EZq.out, EZ1.out]; simp only [List.append_assoc]) (by rw [hnr.out, hnk.out, HNq.out, hn1.out]; simp only [List.length_append, List.length_replicate, List.length_singleton, hlen]; omega))
                        clear HBr hlen
                        go_wp2_with fail
                        go_loopw [0, 261] (fun v0 vc wz => v0 = .slice ar nr cr ∧ vc = .int .i64 0 ∧ wr = wz) (fun _ _ _ => 0)
                        case atStart => exact ⟨rfl, rfl, rfl⟩
                        case round =>
                          obtain ⟨rfl, rfl, rfl⟩ := hrel
                          go_wp2_with fail
                          go_ret
                          rw [HTX.out]
                          exact HFN.out
    · have hgt : decide ((D : Int) < (nd : Int)) = false := decide_eq_false (by omega)
      have hgn : decide (D < nd) = false := decide_eq_false hg
      clear hg
      go_enter Tryd.func47, Tryd.ntmps47
      go_upto_if 178 with fail
      go_cut [0] from 179 to 181 (fun v0 wx => ∃ (a2 : Option Addr) (c2 n2 : Nat) (Z : List Int), v0 = .slice a2 n2 c2 ∧ Hid (n2 = n + P1.length) ∧ n2 ≤ 1001 ∧ Hid (Z = X ++ P1) ∧ Hid (Buf w0 wx g L T a2 c2 n2 Z))
      case first =>
        cases neg with
        | true =>
          go_wp2_with (first | (refine wpList_bs rfl 48 5 1 _ rfl [.int .u8 45] Tryd.underlying48 Tryd.bs8 rfl (by decide) (by decide) (by first | rfl | simp [Act.eval]) (by simp [Value.cells]) ?_) | (at_builtin; go_must (refine wpl_append rfl _ _ 48 rfl 5 1 1 Tryd.underlying48 Tryd.info8s (by omega) _ _ n _ rfl (HB.out.own.keep0 ((Keeps.refl _ _).alloc _)) _ 1 1 [.int .u8 45] rfl (Src.lit (Blk.new _ _ _) 1 rfl (by simp [Value.oneCell'])) (by unfold maxLen; omega) (by omega) ?_)))
          intro a2 c2 w2 hown2 hk2 hf2 _
          obtain ⟨Z2, hzz⟩ : ∃ z, z = X ++ [45] := ⟨_, rfl⟩
          have HB2 := Lib.hid (hzz ▸ HB.out.app [.int .u8 45] [45] rfl hown2 hk2 hf2)
          have EZ2 := Lib.hid hzz
          clear hown2 hk2 hf2 hzz
          go_wp2_with fail
          go_meet
          exact ⟨a2, c2, n + 1, Z2, rfl, Lib.hid (by rw [HP1.out]; rfl), by omega, Lib.hid (by rw [HP1.out]; exact EZ2.out), HB2⟩
        | false =>
          go_wp2_with fail
          go_meet
          exact ⟨a, c, n, X, rfl, Lib.hid (by rw [HP1.out]; rfl), by omega, Lib.hid (by rw [HP1.out]; simp), HB⟩
      case rest =>
      obtain ⟨a1, c1, n1, Z1, rfl, hn1, hn1b, EZ1, HB1⟩ := hcut
      clear HB
      go_wp2_with fail
      go_loopw [0, 191, 25] (fun v0 vc _ wr => ∃ (j : Nat) (aj : Option Addr) (cj nj : Nat) (Zj : List Int), v0 = .slice aj nj cj ∧ vc = .int .i64 j ∧ j ≤ MI ∧ Hid (nj = n1 + j) ∧ nj ≤ 1030 ∧ Hid (Zj = Z1 ++ L.take j) ∧ Hid (Buf w0 wr g L T aj cj nj Zj)) (fun _ vc _ _ => MI - (intOf vc).toNat)
      case atStart => exact ⟨0, a1, c1, n1, Z1, rfl, rfl, Nat.zero_le _, Lib.hid rfl, by omega, Lib.hid (by simp), HB1⟩
      case round =>
        obtain ⟨j, aj, cj, nj, Zj, rfl, rfl, hj, hnj, hnjb, EZj, HBj⟩ := hrel
        by_cases hjm : j < MI
        · have hji : (j : Int) < MI := by omega
          have hj0 : (0 : Int) ≤ j := by omega
          have hcl := HBj.out.blk.cell j (byteV_get HL.out (by omega))
          obtain ⟨ch, hch⟩ : ∃ ch, ch = L.getD j 0 := ⟨_, rfl⟩
          rw [← hch] at hcl
          have HCH := Lib.hid hch
          clear hch
          go_wp2_with (first | (refine wpList_bs rfl 48 5 1 _ rfl [.int .u8 ch] Tryd.underlying48 Tryd.bs8 rfl (by decide) (by decide) (by first | rfl | simp [Act.eval]) (by simp [Value.cells]) ?_) | (at_builtin; go_must (refine wpl_append rfl _ _ 48 rfl 5 1 1 Tryd.underlying48 Tryd.info8s (by omega) _ _ nj _ rfl (HBj.out.own.keep0 ((Keeps.refl _ _).alloc _)) _ 1 1 [.int .u8 ch] rfl (Src.lit (Blk.new _ _ _) 1 rfl (by simp [Value.oneCell'])) (by unfold maxLen; omega) (by omega) ?_)))
          intro ak ck wk hown2 hk2 hf2 _
          obtain ⟨Zk, hzz⟩ : ∃ z, z = Zj ++ [ch] := ⟨_, rfl⟩
          have HBk := Lib.hid (hzz ▸ HBj.out.app [.int .u8 ch] [ch] rfl hown2 hk2 hf2)
          have EZk := Lib.hid hzz
          clear hown2 hk2 hf2 hzz
          have EZn : Hid (Zk = Z1 ++ L.take (j + 1)) := Lib.hid (by
            rw [EZk.out, EZj.out, List.take_succ_eq_append_getElem (by rw [HL.out]; omega), List.append_assoc, HCH.out]
            congr 2
            have : j < L.length := by rw [HL.out]; omega
            simp [List.getD, this])
          have HNk : Hid (nj + 1 = n1 + (j + 1)) := Lib.hid (by have := hnj.out; omega)
          have hnkb : nj + 1 ≤ 1030 := by have := hnj.out; omega
          clear HBj hcl
          go_wp2_with fail
          go_roundw
          case rel => first | exact ⟨j + 1, ak, ck, nj + 1, Zk, by go_num, by go_num, by omega, HNk, hnkb, EZn, HBk⟩ | ((repeat apply Exists.intro); exact ⟨⟨j + 1, ak, ck, nj + 1, Zk, by go_num, by go_num, by omega, HNk, hnkb, EZn, HBk⟩, rfl⟩)
          case measure => first | (simp [intOf]; done) | (simp [intOf]; omega)
        · obtain rfl : j = MI := by omega
          have hji : ¬ (j : Int) < j := by omega
          go_wp2_with fail
          go_loopw [0, 203] (fun v0 vc wr => ∃ (i : Nat) (ai : Option Addr) (ci ni : Nat) (Zi : List Int), v0 = .slice ai ni ci ∧ vc = .int .i64 i ∧ i ≤ ZI ∧ Hid (ni = nj + i) ∧ ni ≤ 1040 ∧ Hid (Zi = Zj ++ List.replicate i 48) ∧ Hid (Buf w0 wr g L T ai ci ni Zi)) (fun _ vc _ => ZI - (intOf vc).toNat)
          case atStart => exact ⟨0, aj, cj, nj, Zj, rfl, rfl, Nat.zero_le _, Lib.hid rfl, by omega, Lib.hid (by simp), HBj⟩
          case round =>
            obtain ⟨i, ai, ci, ni, Zi, rfl, rfl, hi, hni, hnib, EZi, HBi⟩ := hrel
            by_cases hiz : i < ZI
            · have hii : (i : Int) < ZI := by omega
              go_wp2_with (first | (refine wpList_bs rfl 48 5 1 _ rfl [.int .u8 48] Tryd.underlying48 Tryd.bs8 rfl (by decide) (by decide) (by first | rfl | simp [Act.eval]) (by simp [Value.cells]) ?_) | (at_builtin; go_must (refine wpl_append rfl _ _ 48 rfl 5 1 1 Tryd.underlying48 Tryd.info8s (by omega) _ _ ni _ rfl (HBi.out.own.keep0 ((Keeps.refl _ _).alloc _)) _ 1 1 [.int .u8 48] rfl (Src.lit (Blk.new _ _ _) 1 rfl (by simp [Value.oneCell'])) (by unfold maxLen; omega) (by omega) ?_)))
              intro ak ck wk hown2 hk2 hf2 _
              obtain ⟨Zk, hzz⟩ : ∃ z, z = Zi ++ [48] := ⟨_, rfl⟩
              have HBk := Lib.hid (hzz ▸ HBi.out.app [.int .u8 48] [48] rfl hown2 hk2 hf2)
              have EZk := Lib.hid hzz
              clear hown2 hk2 hf2 hzz
              have EZn : Hid (Zk = Zj ++ List.replicate (i + 1) 48) := Lib.hid (by rw [EZk.out, EZi.out, List.replicate_succ', List.append_assoc])
              have HNk : Hid (ni + 1 = nj + (i + 1)) := Lib.hid (by have := hni.out; omega)
              have hnkb : ni + 1 ≤ 1040 := by have := hni.out; have := hnj.out; omega
              clear HBi
              go_wp2_with fail
              go_roundw
              case rel => first | exact ⟨i + 1, ak, ck, ni + 1, Zk, by go_num, by go_num, by omega, HNk, hnkb, EZn, HBk⟩ | ((repeat apply Exists.intro); exact ⟨⟨i + 1, ak, ck, ni + 1, Zk, by go_num, by go_num, by omega, HNk, hnkb, EZn, HBk⟩, rfl⟩)
              case measure => first | (simp [intOf]; done) | (simp [intOf]; omega)
            · obtain rfl : i = ZI := by omega
              have hii : ¬ (i : Int) < i := by omega
              obtain ⟨IP, hIP⟩ : ∃ IP, IP = L.take j ++ List.replicate i 48 := ⟨_, rfl⟩
              have EZq : Hid (Zi = Z1 ++ IP) := Lib.hid (by rw [EZi.out, EZj.out, hIP, List.append_assoc])
              have HNq : Hid (ni = n1 + IP.length) := Lib.hid (by rw [hIP, hni.out, hnj.out, List.length_append, List.length_take, List.length_replicate, HL.out]; omega)
              rw [← hIP] at HTX
              clear hIP EZi EZj hni hnj HBj
              have HBq := HBi
              clear HBi
              by_cases hp : PR = 0
              · subst hp
                have h00 : ¬ ((0 : Nat) : Int) > 0 := by omega
                rw [if_neg (show ¬ 0 < 0 by omega), List.append_nil] at HTX
                go_wp2_with fail
                go_ret
                exact fmt_end HBq.out (by rw [EZq.out, EZ1.out, HTX.out, List.append_assoc]) (by rw [HTX.out, HNq.out, hn1.out, List.length_append]; omega)
              · have hpi : (0 : Int) < PR := by omega
                rw [if_pos (show 0 < PR by omega)] at HTX
                go_wp2_with (first | (refine wpList_bs rfl 48 5 1 _ rfl [.int .u8 46] Tryd.underlying48 Tryd.bs8 rfl (by decide) (by decide) (by first | rfl | simp [Act.eval]) (by simp [Value.cells]) ?_) | (at_builtin; go_must (refine wpl_append rfl _ _ 48 rfl 5 1 1 Tryd.underlying48 Tryd.info8s (by omega) _ _ ni _ rfl (HBq.out.own.keep0 ((Keeps.refl _ _).alloc _)) _ 1 1 [.int .u8 46] rfl (Src.lit (Blk.new _ _ _) 1 rfl (by simp [Value.oneCell'])) (by unfold maxLen; omega) (by omega) ?_)))
                intro ad cd wd hown2 hk2 hf2 _
                obtain ⟨Zd, hzz⟩ : ∃ z, z = Zi ++ [46] := ⟨_, rfl⟩
                have HBd := Lib.hid (hzz ▸ HBq.out.app [.int .u8 46] [46] rfl hown2 hk2 hf2)
                have EZd := Lib.hid hzz
                clear hown2 hk2 hf2 hzz
                have hdb : ni + 1 ≤ 1041 := by omega
                clear HBq
                go_wp2_with fail
                go_loopw [0, 240] (fun v0 vc wr => ∃ (k : Nat) (ak : Option Addr) (ck nk : Nat) (Zk : List Int), v0 = .slice ak nk ck ∧ vc = .int .i64 k ∧ k ≤ LZ ∧ Hid (nk = ni + 1 + k) ∧ nk ≤ 1050 ∧ Hid (Zk = Zd ++ List.replicate k 48) ∧ Hid (Buf w0 wr g L T ak ck nk Zk)) (fun _ vc _ => LZ - (intOf vc).toNat)
                case atStart => exact ⟨0, ad, cd, ni + 1, Zd, rfl, rfl, Nat.zero_le _, Lib.hid rfl, by omega, Lib.hid (by simp), HBd⟩
                case round =>
                  obtain ⟨k, ak, ck, nk, Zk, rfl, rfl, hk, hnk, hnkb, EZk, HBk⟩ := hrel
                  by_cases hkz : k < LZ
                  · have hki : (k : Int) < LZ := by omega
                    go_wp2_with (first | (refine wpList_bs rfl 48 5 1 _ rfl [.int .u8 48] Tryd.underlying48 Tryd.bs8 rfl (by decide) (by decide) (by first | rfl | simp [Act.eval]) (by simp [Value.cells]) ?_) | (at_builtin; go_must (refine wpl_append rfl _ _ 48 rfl 5 1 1 Tryd.underlying48 Tryd.info8s (by omega) _ _ nk _ rfl (HBk.out.own.keep0 ((Keeps.refl _ _).alloc _)) _ 1 1 [.int .u8 48] rfl (Src.lit (Blk.new _ _ _) 1 rfl (by simp [Value.oneCell'])) (by unfold maxLen; omega) (by omega) ?_)))
                    intro am cm wm2 hown2 hk2 hf2 _
                    obtain ⟨Zm, hzz⟩ : ∃ z, z = Zk ++ [48] := ⟨_, rfl⟩
                    have HBm := Lib.hid (hzz ▸ HBk.out.app [.int .u8 48] [48] rfl hown2 hk2 hf2)
                    have EZm := Lib.hid hzz
                    clear hown2 hk2 hf2 hzz
                    have EZn : Hid (Zm = Zd ++ List.replicate (k + 1) 48) := Lib.hid (by rw [EZm.out, EZk.out, List.replicate_succ', List.append_assoc])
                    have HNm : Hid (nk + 1 = ni + 1 + (k + 1)) := Lib.hid (by have := hnk.out; omega)
                    have hnmb : nk + 1 ≤ 1050 := by have := hnk.out; omega
                    clear HBk
                    go_wp2_with fail
                    go_roundw
                    case rel => first | exact ⟨k + 1, am, cm, nk + 1, Zm, by go_num, by go_num, by omega, HNm, hnmb, EZn, HBm⟩ | ((repeat apply Exists.intro); exact ⟨⟨k + 1, am, cm, nk + 1, Zm, by go_num, by go_num, by omega, HNm, hnmb, EZn, HBm⟩, rfl⟩)
                    case measure => first | (simp [intOf]; done) | (simp [intOf]; omega)
                  · obtain rfl : k = LZ := by omega
                    have hki : ¬ (k : Int) < k := by omega
                    go_wp2_with fail
                    go_loopw [0, 247, 30] (fun v0 vc _ wr => ∃ (r : Nat) (ar : Option Addr) (cr nr : Nat) (Zr : List Int), v0 = .slice ar nr cr ∧ vc = .int .i64 r ∧ r ≤ MM ∧ Hid (nr = nk + r) ∧ nr ≤ 1080 ∧ Hid (Zr = Zk ++ (L.drop OF).take r) ∧ Hid (Buf w0 wr g L T ar cr nr Zr)) (fun _ vc _ _ => MM - (intOf vc).toNat)
                    case atStart => exact ⟨0, ak, ck, nk, Zk, rfl, rfl, Nat.zero_le _, Lib.hid rfl, by omega, Lib.hid (by simp), HBk⟩
                    case round =>
                      obtain ⟨r, ar, cr, nr, Zr, rfl, rfl, hr, hnr, hnrb, EZr, HBr⟩ := hrel
                      by_cases hrm : r < MM
                      · have hri : (r : Int) < MM := by omega
                        have hof2 : OF + r < 32 := by omega
                        have hofr : (OF : Int) + (r : Int) = ((OF + r : Nat) : Int) := by omega
                        obtain ⟨OR, hOR⟩ : ∃ q, q = OF + r := ⟨_, rfl⟩
                        rw [← hOR] at hofr hof2
                        have hofw : IntKind.i64.wrap (OR : Int) = (OR : Int) := by rw [IntKind.wrap_i64]; omega
                        have hor32 : (OR : Int) < 32 := by omega
                        have hcl := HBr.out.blk.cell OR (byteV_get HL.out (by omega))
                        obtain ⟨ch, hch⟩ : ∃ ch, ch = L.getD OR 0 := ⟨_, rfl⟩
                        rw [← hch] at hcl
                        have HCH := Lib.hid (And.intro hch hOR)
                        clear hch hOR
                        go_wp2_with (first | (refine wpList_bs rfl 48 5 1 _ rfl [.int .u8 ch] Tryd.underlying48 Tryd.bs8 rfl (by decide) (by decide) (by first | rfl | simp [Act.eval]) (by simp [Value.cells]) ?_) | (at_builtin; go_must (refine wpl_append rfl _ _ 48 rfl 5 1 1 Tryd.underlying48 Tryd.info8s (by omega) _ _ nr _ rfl (HBr.out.own.keep0 ((Keeps.refl _ _).alloc _)) _ 1 1 [.int .u8 ch] rfl (Src.lit (Blk.new _ _ _) 1 rfl (by simp [Value.oneCell'])) (by unfold maxLen; omega) (by omega) ?_)))
                        intro am cm wm2 hown2 hk2 hf2 _
                        obtain ⟨Zm, hzz⟩ : ∃ z, z = Zr ++ [ch] := ⟨_, rfl⟩
                        have HBm := Lib.hid (hzz ▸ HBr.out.app [.int .u8 ch] [ch] rfl hown2 hk2 hf2)
                        have EZm := Lib.hid hzz
                        clear hown2 hk2 hf2 hzz
                        have hlt : r < (L.drop OF).length := by rw [List.length_drop, HL.out]; have := HCH.out.2; omega
                        have hgd : (L.drop OF)[r] = ch := by
                          have hc2 := HCH.out.2
                          rw [HCH.out.1, hc2]
                          have : OF + r < L.length := by rw [HL.out]; omega
                          simp [List.getD, this]
                        have EZn : Hid (Zm = Zk ++ (L.drop OF).take (r + 1)) := Lib.hid (by rw [EZm.out, EZr.out, List.take_succ_eq_append_getElem hlt, hgd, List.append_assoc])
                        clear hlt hgd
                        have HNm : Hid (nr + 1 = nk + (r + 1)) := Lib.hid (by have := hnr.out; omega)
                        have hnmb : nr + 1 ≤ 1080 := by have := hnr.out; omega
                        clear HBr hcl
                        go_wp2_with fail
                        go_roundw
                        case rel => first | exact ⟨r + 1, am, cm, nr + 1, Zm, by go_num, by go_num, by omega, HNm, hnmb, EZn, HBm⟩ | ((repeat apply Exists.intro); exact ⟨⟨r + 1, am, cm, nr + 1, Zm, by go_num, by go_num, by omega, HNm, hnmb, EZn, HBm⟩, rfl⟩)
                        case measure => first | (simp [intOf]; done) | (simp [intOf]; omega)
                      · obtain rfl : r = MM := by omega
                        have hri : ¬ (r : Int) < r := by omega
                        have hlen : ((L.drop OF).take r).length = r := by rw [List.length_take, List.length_drop, HL.out]; omega
                        have HFN : Hid (FmtP w0 X (P1 ++ (IP ++ ([46] ++ (List.replicate k 48 ++ (L.drop OF).take r)))) n (.returned (.slice ar nr cr)) wr) := Lib.hid (fmt_end HBr.out (by rw [EZr.out, EZk.out, EZd.out, EZq.out, EZ1.out]; simp only [List.append_assoc]) (by rw [hnr.out, hnk.out, HNq.out, hn1.out]; simp only [List.length_append, List.length_replicate, List.length_singleton, hlen]; omega))
                        clear HBr hlen
                        go_wp2_with fail
                        go_loopw [0, 261] (fun v0 vc wz => v0 = .slice ar nr cr ∧ vc = .int .i64 0 ∧ wr = wz) (fun _ _ _ => 0)
                        case atStart => exact ⟨rfl, rfl, rfl⟩
                        case round =>
                          obtain ⟨rfl, rfl, rfl⟩ := hrel
                          go_wp2_with fail
                          go_ret
                          rw [HTX.out]
                          exact HFN.out
  · obtain ⟨ZD, hZD⟩ : ∃ Z : Nat, dp = -(Z : Int) := ⟨(-dp).toNat, by omega⟩
    subst hZD
    have hZb : ZD ≤ 3 := by omega
    have h0d : decide (0 < -(ZD : Int)) = false := decide_eq_false h0
    obtain ⟨PR, hPR⟩ : ∃ PR, PR = nd + ZD := ⟨_, rfl⟩
    obtain ⟨LZ, hLZ⟩ : ∃ LZ, LZ = ZD := ⟨_, rfl⟩
    obtain ⟨OF, hOF⟩ : ∃ OF, OF = 0 := ⟨_, rfl⟩
    obtain ⟨MM, hMM⟩ : ∃ MM, MM = nd := ⟨_, rfl⟩
    have hgt : decide (-(ZD : Int) < (nd : Int)) = decide (0 < PR) := decide_eq_decide.2 (by omega)
    have hsb : IntKind.i64.wrap ((nd : Int) - -(ZD : Int)) = (nd : Int) - -(ZD : Int) := by rw [IntKind.wrap_i64]; omega
    have hsb2 : (nd : Int) - -(ZD : Int) = (PR : Int) := by omega
    have hsb3 : (nd : Int) + (ZD : Int) = (PR : Int) := by omega
    have hmax : max (PR : Int) 0 = (PR : Int) := by omega
    have hMIb : ZD ≤ 20 ∧ PR ≤ 24 := by omega
    have HTX : Hid (textF neg L nd (-(ZD : Int)) = P1 ++ ([48] ++ if 0 < PR then [46] ++ (List.replicate LZ 48 ++ (L.drop OF).take MM) else [])) := Lib.hid (by
      unfold textF
      rw [← hP1, if_neg h0, show (- -(ZD : Int)).toNat = ZD by omega]
      by_cases hp : 0 < PR
      · rw [if_pos hp, if_pos (by omega), hLZ, hOF, hMM, List.drop_zero]
      · rw [if_neg hp, if_neg (by omega)])
    have hneg : - -(ZD : Int) = (ZD : Int) := by omega
    have hlz : min (PR : Int) (ZD : Int) = (LZ : Int) := by omega
    have hof : -(ZD : Int) + LZ = (OF : Int) := by omega
    have hm1 : (PR : Int) - LZ = (nd : Int) := by omega
    have hm2 : min (nd : Int) (max 0 ((nd : Int) - OF)) = (MM : Int) := by omega
    have hm3 : max 0 ((nd : Int) - MM) = (0 : Int) := by omega
    have hofm : OF + MM ≤ 20 ∨ MM = 0 := by omega
    have hLZb : LZ ≤ 3 := by omega
    have hpz : 0 < PR ∨ PR = 0 := by omega
    clear hP1 hPR hLZ hOF hMM
    rcases hpz with hpz | hpz
    · have hg : decide (0 < PR) = true := decide_eq_true hpz
      rw [hg] at hgt
      have hpz1 := Lib.hid (show ¬ PR = 0 by omega)
      clear hpz
      go_enter Tryd.func47, Tryd.ntmps47
      go_upto_if 178 with fail
      go_cut [0] from 179 to 181 (fun v0 wx => ∃ (a2 : Option Addr) (c2 n2 : Nat) (Z : List Int), v0 = .slice a2 n2 c2 ∧ Hid (n2 = n + P1.length) ∧ n2 ≤ 1001 ∧ Hid (Z = X ++ P1) ∧ Hid (Buf w0 wx g L T a2 c2 n2 Z))
      case first =>
        cases neg with
        | true =>
          go_wp2_with (first | (refine wpList_bs rfl 48 5 1 _ rfl [.int .u8 45] Tryd.underlying48 Tryd.bs8 rfl (by decide) (by decide) (by first | rfl | simp [Act.eval]) (by simp [Value.cells]) ?_) | (at_builtin; go_must (refine wpl_append rfl _ _ 48 rfl 5 1 1 Tryd.underlying48 Tryd.info8s (by omega) _ _ n _ rfl (HB.out.own.keep0 ((Keeps.refl _ _).alloc _)) _ 1 1 [.int .u8 45] rfl (Src.lit (Blk.new _ _ _) 1 rfl (by simp [Value.oneCell'])) (by unfold maxLen; omega) (by omega) ?_)))
          intro a2 c2 w2 hown2 hk2 hf2 _
          obtain ⟨Z2, hzz⟩ : ∃ z, z = X ++ [45] := ⟨_, rfl⟩
          have HB2 := Lib.hid (hzz ▸ HB.out.app [.int .u8 45] [45] rfl hown2 hk2 hf2)
          have EZ2 := Lib.hid hzz
          clear hown2 hk2 hf2 hzz
          go_wp2_with fail
          go_meet
          exact ⟨a2, c2, n + 1, Z2, rfl, Lib.hid (by rw [HP1.out]; rfl), by omega, Lib.hid (by rw [HP1.out]; exact EZ2.out), HB2⟩
        | false =>
          go_wp2_with fail
          go_meet
          exact ⟨a, c, n, X, rfl, Lib.hid (by rw [HP1.out]; rfl), by omega, Lib.hid (by rw [HP1.out]; simp), HB⟩
      case rest =>
      obtain ⟨a1, c1, n1, Z1, rfl, hn1, hn1b, EZ1, HB1⟩ := hcut
      clear HB
      have hp : ¬ PR = 0 := hpz1.out
      go_wp2_with (first | (refine wpList_bs rfl 48 5 1 _ rfl [.int .u8 48] Tryd.underlying48 Tryd.bs8 rfl (by decide) (by decide) (by first | rfl | simp [Act.eval]) (by simp [Value.cells]) ?_) | (at_builtin; go_must (refine wpl_append rfl _ _ 48 rfl 5 1 1 Tryd.underlying48 Tryd.info8s (by omega) _ _ n1 _ rfl (HB1.out.own.keep0 ((Keeps.refl _ _).alloc _)) _ 1 1 [.int .u8 48] rfl (Src.lit (Blk.new _ _ _) 1 rfl (by simp [Value.oneCell'])) (by unfold maxLen; omega) (by omega) ?_)))
      intro ai ci wi hown2 hk2 hf2 _
      obtain ⟨Zi, hzz⟩ : ∃ z, z = Z1 ++ [48] := ⟨_, rfl⟩
      have HBq := Lib.hid (hzz ▸ HB1.out.app [.int .u8 48] [48] rfl hown2 hk2 hf2)
      have EZi := Lib.hid hzz
      clear hown2 hk2 hf2 hzz
      obtain ⟨IP, hIP⟩ : ∃ IP : List Int, IP = [48] := ⟨_, rfl⟩
      have EZq : Hid (Zi = Z1 ++ IP) := Lib.hid (by rw [EZi.out, hIP])
      obtain ⟨ni, hni⟩ : ∃ q, q = n1 + 1 := ⟨_, rfl⟩
      have HNq : Hid (ni = n1 + IP.length) := Lib.hid (by rw [hIP, hni]; rfl)
      have hnib : ni ≤ 1040 := by omega
      rw [← hIP] at HTX
      rw [← hni] at HBq ⊢
      clear hIP EZi hni HB1
      have hpi : (0 : Int) < PR := by omega
      rw [if_pos (show 0 < PR by omega)] at HTX
      go_wp2_with (first | (refine wpList_bs rfl 48 5 1 _ rfl [.int .u8 46] Tryd.underlying48 Tryd.bs8 rfl (by decide) (by decide) (by first | rfl | simp [Act.eval]) (by simp [Value.cells]) ?_) | (at_builtin; go_must (refine wpl_append rfl _ _ 48 rfl 5 1 1 Tryd.underlying48 Tryd.info8s (by omega) _ _ ni _ rfl (HBq.out.own.keep0 ((Keeps.refl _ _).alloc _)) _ 1 1 [.int .u8 46] rfl (Src.lit (Blk.new _ _ _) 1 rfl (by simp [Value.oneCell'])) (by unfold maxLen; omega) (by omega) ?_)))
      intro ad cd wd hown2 hk2 hf2 _
      obtain ⟨Zd, hzz⟩ : ∃ z, z = Zi ++ [46] := ⟨_, rfl⟩
      have HBd := Lib.hid (hzz ▸ HBq.out.app [.int .u8 46] [46] rfl hown2 hk2 hf2)
      have EZd := Lib.hid hzz
      clear hown2 hk2 hf2 hzz
      have hdb : ni + 1 ≤ 1041 := by omega
      clear HBq
      go_wp2_with fail
      go_loopw [0, 240] (fun v0 vc wr => ∃ (k : Nat) (ak : Option Addr) (ck nk : Nat) (Zk : List Int), v0 = .slice ak nk ck ∧ vc = .int .i64 k ∧ k ≤ LZ ∧ Hid (nk = ni + 1 + k) ∧ nk ≤ 1050 ∧ Hid (Zk = Zd ++ List.replicate k 48) ∧ Hid (Buf w0 wr g L T ak ck nk Zk)) (fun _ vc _ => LZ - (intOf vc).toNat)
      case atStart => exact ⟨0, ad, cd, ni + 1, Zd, rfl, rfl, Nat.zero_le _, Lib.hid rfl, by omega, Lib.hid (by simp), HBd⟩
      case round =>
        obtain ⟨k, ak, ck, nk, Zk, rfl, rfl, hk, hnk, hnkb, EZk, HBk⟩ := hrel
        by_cases hkz : k < LZ
        · have hki : (k : Int) < LZ := by omega
          go_wp2_with (first | (refine wpList_bs rfl 48 5 1 _ rfl [.int .u8 48] Tryd.underlying48 Tryd.bs8 rfl (by decide) (by decide) (by first | rfl | simp [Act.eval]) (by simp [Value.cells]) ?_) | (at_builtin; go_must (refine wpl_append rfl _ _ 48 rfl 5 1 1 Tryd.underlying48 Tryd.info8s (by omega) _ _ nk _ rfl (HBk.out.own.keep0 ((Keeps.refl _ _).alloc _)) _ 1 1 [.int .u8 48] rfl (Src.lit (Blk.new _ _ _) 1 rfl (by simp [Value.oneCell'])) (by unfold maxLen; omega) (by omega) ?_)))
          intro am cm wm2 hown2 hk2 hf2 _
          obtain ⟨Zm, hzz⟩ : ∃ z, z = Zk ++ [48] := ⟨_, rfl⟩
          have HBm := Lib.hid (hzz ▸ HBk.out.app [.int .u8 48] [48] rfl hown2 hk2 hf2)
          have EZm := Lib.hid hzz
          clear hown2 hk2 hf2 hzz
          have EZn : Hid (Zm = Zd ++ List.replicate (k + 1) 48) := Lib.hid (by rw [EZm.out, EZk.out, List.replicate_succ', List.append_assoc])
          have HNm : Hid (nk + 1 = ni + 1 + (k + 1)) := Lib.hid (by have := hnk.out; omega)
          have hnmb : nk + 1 ≤ 1050 := by have := hnk.out; omega
          clear HBk
          go_wp2_with fail
          go_roundw
          case rel => first | exact ⟨k + 1, am, cm, nk + 1, Zm, by go_num, by go_num, by omega, HNm, hnmb, EZn, HBm⟩ | ((repeat apply Exists.intro); exact ⟨⟨k + 1, am, cm, nk + 1, Zm, by go_num, by go_num, by omega, HNm, hnmb, EZn, HBm⟩, rfl⟩)
          case measure => first | (simp [intOf]; done) | (simp [intOf]; omega)
        · obtain rfl : k = LZ := by omega
          have hki : ¬ (k : Int) < k := by omega
          go_wp2_with fail
          go_loopw [0, 247, 30] (fun v0 vc _ wr => ∃ (r : Nat) (ar : Option Addr) (cr nr : Nat) (Zr : List Int), v0 = .slice ar nr cr ∧ vc = .int .i64 r ∧ r ≤ MM ∧ Hid (nr = nk + r) ∧ nr ≤ 1080 ∧ Hid (Zr = Zk ++ (L.drop OF).take r) ∧ Hid (Buf w0 wr g L T ar cr nr Zr)) (fun _ vc _ _ => MM - (intOf vc).toNat)
          case atStart => exact ⟨0, ak, ck, nk, Zk, rfl, rfl, Nat.zero_le _, Lib.hid rfl, by omega, Lib.hid (by simp), HBk⟩
          case round =>
            obtain ⟨r, ar, cr, nr, Zr, rfl, rfl, hr, hnr, hnrb, EZr, HBr⟩ := hrel
            by_cases hrm : r < MM
            · have hri : (r : Int) < MM := by omega
              have hof2 : OF + r < 32 := by omega
              have hofr : (OF : Int) + (r : Int) = ((OF + r : Nat) : Int) := by omega
              obtain ⟨OR, hOR⟩ : ∃ q, q = OF + r := ⟨_, rfl⟩
              rw [← hOR] at hofr hof2
              have hofw : IntKind.i64.wrap (OR : Int) = (OR : Int) := by rw [IntKind.wrap_i64]; omega
              have hor32 : (OR : Int) < 32 := by omega
              have hcl := HBr.out.blk.cell OR (byteV_get HL.out (by omega))
              obtain ⟨ch, hch⟩ : ∃ ch, ch = L.getD OR 0 := ⟨_, rfl⟩
              rw [← hch] at hcl
              have HCH := Lib.hid (And.intro hch hOR)
              clear hch hOR
              go_wp2_with (first | (refine wpList_bs rfl 48 5 1 _ rfl [.int .u8 ch] Tryd.underlying48 Tryd.bs8 rfl (by decide) (by decide) (by first | rfl | simp [Act.eval]) (by simp [Value.cells]) ?_) | (at_builtin; go_must (refine wpl_append rfl _ _ 48 rfl 5 1 1 Tryd.underlying48 Tryd.info8s (by omega) _ _ nr _ rfl (HBr.out.own.keep0 ((Keeps.refl _ _).alloc _)) _ 1 1 [.int .u8 ch] rfl (Src.lit (Blk.new _ _ _) 1 rfl (by simp [Value.oneCell'])) (by unfold maxLen; omega) (by omega) ?_)))
              intro am cm wm2 hown2 hk2 hf2 _
              obtain ⟨Zm, hzz⟩ : ∃ z, z = Zr ++ [ch] := ⟨_, rfl⟩
              have HBm := Lib.hid (hzz ▸ HBr.out.app [.int .u8 ch] [ch] rfl hown2 hk2 hf2)
              have EZm := Lib.hid hzz
              clear hown2 hk2 hf2 hzz
              have hlt : r < (L.drop OF).length := by rw [List.length_drop, HL.out]; have := HCH.out.2; omega
              have hgd : (L.drop OF)[r] = ch := by
                have hc2 := HCH.out.2
                rw [HCH.out.1, hc2]
                have : OF + r < L.length := by rw [HL.out]; omega
                simp [List.getD, this]
              have EZn : Hid (Zm = Zk ++ (L.drop OF).take (r + 1)) := Lib.hid (by rw [EZm.out, EZr.out, List.take_succ_eq_append_getElem hlt, hgd, List.append_assoc])
              clear hlt hgd
              have HNm : Hid (nr + 1 = nk + (r + 1)) := Lib.hid (by have := hnr.out; omega)
              have hnmb : nr + 1 ≤ 1080 := by have := hnr.out; omega
              clear HBr hcl
              go_wp2_with fail
              go_roundw
              case rel => first | exact ⟨r + 1, am, cm, nr + 1, Zm, by go_num, by go_num, by omega, HNm, hnmb, EZn, HBm⟩ | ((repeat apply Exists.intro); exact ⟨⟨r + 1, am, cm, nr + 1, Zm, by go_num, by go_num, by omega, HNm, hnmb, EZn, HBm⟩, rfl⟩)
              case measure => first | (simp [intOf]; done) | (simp [intOf]; omega)
            · obtain rfl : r = MM := by omega
              have hri : ¬ (r : Int) < r := by omega
              have hlen : ((L.drop OF).take r).length = r := by rw [List.length_take, List.length_drop, HL.out]; omega
              have HFN : Hid (FmtP w0 X (P1 ++ (IP ++ ([46] ++ (List.replicate k 48 ++ (L.drop OF).take r)))) n (.returned (.slice ar nr cr)) wr) := Lib.hid (fmt_end HBr.out (by rw [EZr.out, EZk.out, EZd.out, EZq.out, EZ1.out]; simp only [List.append_assoc]) (by rw [hnr.out, hnk.out, HNq.out, hn1.out]; simp only [List.length_append, List.length_replicate, List.length_singleton, hlen]; omega))
              clear HBr hlen
              go_wp2_with fail
              go_loopw [0, 261] (fun v0 vc wz => v0 = .slice ar nr cr ∧ vc = .int .i64 0 ∧ wr = wz) (fun _ _ _ => 0)
              case atStart => exact ⟨rfl, rfl, rfl⟩
              case round =>
                obtain ⟨rfl, rfl, rfl⟩ := hrel
                go_wp2_with fail
                go_ret
                rw [HTX.out]
                exact HFN.out
    · have hg : decide (0 < PR) = false := decide_eq_false (by omega)
      rw [hg] at hgt
      have hpz0 := Lib.hid hpz
      clear hpz
      go_enter Tryd.func47, Tryd.ntmps47
      go_upto_if 178 with fail
      go_cut [0] from 179 to 181 (fun v0 wx => ∃ (a2 : Option Addr) (c2 n2 : Nat) (Z : List Int), v0 = .slice a2 n2 c2 ∧ Hid (n2 = n + P1.length) ∧ n2 ≤ 1001 ∧ Hid (Z = X ++ P1) ∧ Hid (Buf w0 wx g L T a2 c2 n2 Z))
      case first =>
        cases neg with
        | true =>
          go_wp2_with (first | (refine wpList_bs rfl 48 5 1 _ rfl [.int .u8 45] Tryd.underlying48 Tryd.bs8 rfl (by decide) (by decide) (by first | rfl | simp [Act.eval]) (by simp [Value.cells]) ?_) | (at_builtin; go_must (refine wpl_append rfl _ _ 48 rfl 5 1 1 Tryd.underlying48 Tryd.info8s (by omega) _ _ n _ rfl (HB.out.own.keep0 ((Keeps.refl _ _).alloc _)) _ 1 1 [.int .u8 45] rfl (Src.lit (Blk.new _ _ _) 1 rfl (by simp [Value.oneCell'])) (by unfold maxLen; omega) (by omega) ?_)))
          intro a2 c2 w2 hown2 hk2 hf2 _
          obtain ⟨Z2, hzz⟩ : ∃ z, z = X ++ [45] := ⟨_, rfl⟩
          have HB2 := Lib.hid (hzz ▸ HB.out.app [.int .u8 45] [45] rfl hown2 hk2 hf2)
          have EZ2 := Lib.hid hzz
          clear hown2 hk2 hf2 hzz
          go_wp2_with fail
          go_meet
          exact ⟨a2, c2, n + 1, Z2, rfl, Lib.hid (by rw [HP1.out]; rfl), by omega, Lib.hid (by rw [HP1.out]; exact EZ2.out), HB2⟩
        | false =>
          go_wp2_with fail
          go_meet
          exact ⟨a, c, n, X, rfl, Lib.hid (by rw [HP1.out]; rfl), by omega, Lib.hid (by rw [HP1.out]; simp), HB⟩
      case rest =>
      obtain ⟨a1, c1, n1, Z1, rfl, hn1, hn1b, EZ1, HB1⟩ := hcut
      clear HB
      go_wp2_with (first | (refine wpList_bs rfl 48 5 1 _ rfl [.int .u8 48] Tryd.underlying48 Tryd.bs8 rfl (by decide) (by decide) (by first | rfl | simp [Act.eval]) (by simp [Value.cells]) ?_) | (at_builtin; go_must (refine wpl_append rfl _ _ 48 rfl 5 1 1 Tryd.underlying48 Tryd.info8s (by omega) _ _ n1 _ rfl (HB1.out.own.keep0 ((Keeps.refl _ _).alloc _)) _ 1 1 [.int .u8 48] rfl (Src.lit (Blk.new _ _ _) 1 rfl (by simp [Value.oneCell'])) (by unfold maxLen; omega) (by omega) ?_)))
      intro ai ci wi hown2 hk2 hf2 _
      obtain ⟨Zi, hzz⟩ : ∃ z, z = Z1 ++ [48] := ⟨_, rfl⟩
      have HBq := Lib.hid (hzz ▸ HB1.out.app [.int .u8 48] [48] rfl hown2 hk2 hf2)
      have EZi := Lib.hid hzz
      clear hown2 hk2 hf2 hzz
      obtain ⟨IP, hIP⟩ : ∃ IP : List Int, IP = [48] := ⟨_, rfl⟩
      have EZq : Hid (Zi = Z1 ++ IP) := Lib.hid (by rw [EZi.out, hIP])
      obtain ⟨ni, hni⟩ : ∃ q, q = n1 + 1 := ⟨_, rfl⟩
      have HNq : Hid (ni = n1 + IP.length) := Lib.hid (by rw [hIP, hni]; rfl)
      have hnib : ni ≤ 1040 := by omega
      rw [← hIP] at HTX
      rw [← hni] at HBq ⊢
      clear hIP EZi hni HB1
      have hp := hpz0.out
      subst hp
      have h00 : ¬ ((0 : Nat) : Int) > 0 := by omega
      rw [if_neg (show ¬ 0 < 0 by omega), List.append_nil] at HTX
      go_wp2_with fail
      go_ret
      exact fmt_end HBq.out (by rw [EZq.out, EZ1.out, HTX.out, List.append_assoc]) (by rw [HTX.out, HNq.out, hn1.out, List.length_append]; omega)
end Go.Proofs.YtmlfekcnpmlfkaaDoor
