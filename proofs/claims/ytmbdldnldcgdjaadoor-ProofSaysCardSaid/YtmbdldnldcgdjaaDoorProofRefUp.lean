/-
  Up and Check: the document's; whether two lists of digests are the same.
-/
import Derived.Test.YtmbdldnldcgdjaaDoorProofCheck
namespace Go.Proofs.YtmbdldnldcgdjaaDoor
set_option linter.unusedSimpArgs false
set_option linter.unusedVariables false
open Go.RowKit

/-- A load of many cells inside a region that draws its order. -/
theorem step_load {P : Program} {ops : Array Oper} {o : Oper} {a : Act} {w : World} {K : Act → World → Prop} {Q : Exit → Act → World → Prop} {E : Prop} (hw : Region.wanted o (yielded ops a.tmps) = true) (ty : TypeId) (x : Operand) (ho : o.op = .load ty x) (g off : Nat) (hx : a.eval x = .pointer (some ⟨g, off, none⟩))
    (cs : List Value) (hc : w.rangeAt g off cs) (d : TypeDesc) (hu : P.underlying ty = some d) (hd : d.isRow = true) (hi : (P.info? ty).map (·.size) = some cs.length)
    (h : K (a.put o.dst (.agg cs.toArray)) w) : if Region.wanted o (yielded ops a.tmps) = true then Oper.wp P o a w K Q else E := by
  rw [if_pos hw]
  exact wp_load_mid ty x ho g off hx cs d hc hu hd hi h
theorem Tryd.bsBool : (Tryd.prog.info? 4).map (fun i => (i.size, i.zero.isSome)) = some (1, true) := by kernel_rfl
theorem Tryd.infoBool : (Tryd.prog.info? 4).map (fun i => (i.zero.map (·.cells.size), i.size, i.bytes)) = some (some 1, 1, 1) := by kernel_rfl
def boolV (l : List Bool) : List Value := l.map Value.bool
theorem upR_is {X : List Int} (hX : Hash32 X) (lefts : List Bool) (P : List (List Int)) : ∀ j, Hash32 (upR X lefts P j)
  | 0 => hX
  | j + 1 => by
    rw [upR]
    unfold stepUp
    split <;> exact ⟨nodeL_len _ _, nodeL_bytes _ _⟩
theorem Hs.keepF {S : Nat → Prop} {w w' : World} {a : Option Addr} {l : List (List Int)} (h : Hs w a l) (hk : Keeps S w w') (hn : ∀ k, blkOf a k → k < w.heap.size → ¬ S k) : Hs w' a l :=
  ⟨h.are, h.most, fun h0 => by
    obtain ⟨b, off, ha, hb, hr⟩ := h.rng h0
    exact ⟨b, off, ha, Nat.lt_of_lt_of_le hb hk.size, fun i hi => rangeAt_keep (hr i hi) hk (hn b ⟨_, ha, rfl⟩ hb)⟩⟩
def RUpPost (w : World) (X : List Int) (i n : Int) (P : List (List Int)) (e : Ending) (w' : World) : Prop := e = .returned (.tuple #[keyV (upV X i n P), .int .i64 (codeO (upE i n P.length))]) ∧ Keeps Nil w w'
set_option maxRecDepth 100000 in
set_option maxHeartbeats 3200000 in
theorem refUp_walk {w : World} {a : Option Addr} {cap : Nat} {P : List (List Int)} {X : List Int} {i n : Int} {m : Nat} (hm : P.length = m) (h : Hs w a P) (hc : m ≤ cap) (hc9 : cap ≤ 9223372036854775807) (hX : Hash32 X) :
    Calls Tryd.prog 18 #[keyV X, .int .i64 i, .int .i64 n, .slice a m cap] w (RUpPost w X i n P) := by
  have hzv := Tryd.zeroH32
  have hbz := Tryd.builtZP
  have hone := byteV_one z32
  have HZ := Lib.hid (show (byteV z32).length = 32 by rw [byteV_len, z32_len])
  have HZV : Hid (keyV z32 = .agg (byteV z32).toArray) := Lib.hid rfl
  generalize hZZ : byteV z32 = Z at *
  clear hZZ
  obtain ⟨wA, hwA, hbX, hbZ, hkA, hsA⟩ := alloc2 w (byteV X) 26 Z 26
  have HWA := Lib.hid hwA
  have HKW := Lib.hid hkA
  have HG := Lib.hid (show ∀ i, One (w.heap.size + 1) i → Nil i ∨ w.heap.size ≤ i from fun i hi => .inr (by rw [show i = w.heap.size + 1 from hi]; omega))
  have hUH := Tryd.undH
  by_cases hbad : i < 0 ∨ n ≤ i ∨ 1048576 < n
  · have he : upE i n P.length = some 1 := by unfold upE; rw [if_pos hbad]
    have hv : upV X i n P = z32 := by unfold upV; rw [he, if_neg (by simp)]
    have HE := Lib.hid (And.intro hv he)
    clear he hv hwA hsA hkA h hm hc
    unfold keyV
    rcases Classical.em (i < 0) with h1 | h1
    · have d1 : decide (i < 0) = true := by simpa using h1
      clear hbad
      go_enter Tryd.func18, Tryd.ntmps18
      go_wp2_with (first | (refine wpl_build rfl 26 _ rfl Z [] hbz (by simp [Act.eval]) ?_) | (rw [← HWA.out]; refine wpl_store rfl 26 _ _ rfl (w.heap.size + 1) rfl Z rfl hbZ rfl (by rw [HZ.out]; exact Tryd.infoH) hone ?_) | (refine wpl_store rfl 26 _ _ rfl (w.heap.size + 1) rfl Z rfl hbZ rfl (by rw [HZ.out]; exact Tryd.infoH) hone ?_))
      intro w5 hb4 hk4 _
      go_wp2_with fail
      exact ret_blk_tmp Tryd.results18 (w.heap.size + 1) rfl hb4 _ hUH rfl (by rw [HZ.out]; exact Tryd.infoH) rfl rfl (by unfold RUpPost; rw [HE.out.1, HE.out.2, HZV.out]; exact ⟨rfl, HKW.out.step hk4 HG.out⟩)
    · rcases Classical.em (n ≤ i) with h2 | h2
      · have d1 : decide (i < 0) = false := by simpa using h1
        have d2 : decide (n ≤ i) = true := by simpa using h2
        clear hbad
        go_enter Tryd.func18, Tryd.ntmps18
        go_wp2_with (first | (refine wpl_build rfl 26 _ rfl Z [] hbz (by simp [Act.eval]) ?_) | (rw [← HWA.out]; refine wpl_store rfl 26 _ _ rfl (w.heap.size + 1) rfl Z rfl hbZ rfl (by rw [HZ.out]; exact Tryd.infoH) hone ?_) | (refine wpl_store rfl 26 _ _ rfl (w.heap.size + 1) rfl Z rfl hbZ rfl (by rw [HZ.out]; exact Tryd.infoH) hone ?_))
        intro w5 hb4 hk4 _
        go_wp2_with fail
        exact ret_blk_tmp Tryd.results18 (w.heap.size + 1) rfl hb4 _ hUH rfl (by rw [HZ.out]; exact Tryd.infoH) rfl rfl (by unfold RUpPost; rw [HE.out.1, HE.out.2, HZV.out]; exact ⟨rfl, HKW.out.step hk4 HG.out⟩)
      · have d1 : decide (i < 0) = false := by simpa using h1
        have d2 : decide (n ≤ i) = false := by simpa using h2
        have d3 : 1048576 < n := by omega
        clear hbad
        go_enter Tryd.func18, Tryd.ntmps18
        go_wp2_with (first | (refine wpl_build rfl 26 _ rfl Z [] hbz (by simp [Act.eval]) ?_) | (rw [← HWA.out]; refine wpl_store rfl 26 _ _ rfl (w.heap.size + 1) rfl Z rfl hbZ rfl (by rw [HZ.out]; exact Tryd.infoH) hone ?_) | (refine wpl_store rfl 26 _ _ rfl (w.heap.size + 1) rfl Z rfl hbZ rfl (by rw [HZ.out]; exact Tryd.infoH) hone ?_))
        intro w5 hb4 hk4 _
        go_wp2_with fail
        exact ret_blk_tmp Tryd.results18 (w.heap.size + 1) rfl hb4 _ hUH rfl (by rw [HZ.out]; exact Tryd.infoH) rfl rfl (by unfold RUpPost; rw [HE.out.1, HE.out.2, HZV.out]; exact ⟨rfl, HKW.out.step hk4 HG.out⟩)
  · obtain ⟨i, rfl⟩ := Int.eq_ofNat_of_zero_le (show 0 ≤ i by omega)
    obtain ⟨n, rfl⟩ := Int.eq_ofNat_of_zero_le (show 0 ≤ n by omega)
    have hin : (i : Int) < n := by omega
    have hn9 : (n : Int) ≤ 1048576 := by omega
    have hi0 : (0 : Int) ≤ i := by omega
    have hE0 : upE i n P.length = if m < (leftsL i n).length then some 2 else if (leftsL i n).length < m then some 3 else none := by
      unfold upE
      rw [if_neg hbad, hm]
      simp only [Int.toNat_natCast]
      rfl
    have hU : upE i n P.length = none → upV X i n P = upR X (leftsL i n) P m := fun he => by
      unfold upV
      rw [he, if_pos rfl]
      simp only [Int.toNat_natCast]
      rw [upL_eq X n i P, hm]
      rw [hE0] at he
      unfold depthN
      rw [hm]
      split at he
      · cases he
      · split at he
        · cases he
        · omega
    have hV : upE i n P.length ≠ none → upV X i n P = z32 := fun he => by unfold upV; rw [if_neg he]
    have hdl : (leftsL i n).length ≤ 1048576 := by have h1 := depthN_le n i; unfold depthN at h1; omega
    have HE := Lib.hid (And.intro hE0 (And.intro hU (And.intro hV hdl)))
    have HHs := Lib.hid (h.keep0 hkA)
    have HM := Lib.hid hm
    have hi2 : i < n := by omega
    have hd1 : ¬ (i : Int) < 0 := by omega
    have hd2 : ¬ n ≤ i := by omega
    have hd3 : ¬ (1048576 : Int) < n := by omega
    generalize hLL : leftsL i n = LL at *
    have HLL := Lib.hid hLL
    clear hE0 hU hV hdl hwA hkA hsA h hm hbad hLL
    unfold keyV
    go_enter Tryd.func18, Tryd.ntmps18
    go_wp2_with fail
    rw [← HWA.out]
    go_loopw [1, 2, 10, 11] (fun vi vn vl vk wr => ∃ (i' n' : Nat) (al : Option Addr) (cl nb : Nat) (bs : List Bool), vi = .int .i64 i' ∧ vn = .int .i64 n' ∧ vl = .slice al nb cl ∧ i' < n' ∧ n' ≤ n ∧ Hid (bs.length = nb) ∧ Hid (bs ++ leftsL i' n' = LL) ∧ Hid (Own wr 4 1 al cl nb (boolV bs)) ∧ Hid (Keeps Nil wA wr) ∧ Hid (∀ k, blkOf al k → wA.heap.size ≤ k)) (fun _ vn _ _ _ => (intOf vn).toNat)
    case atStart => exact ⟨i, n, none, 0, 0, [], rfl, rfl, rfl, hi2, Nat.le_refl _, Lib.hid rfl, HLL, Lib.hid (Own.nil _ _ _), Lib.hid (Keeps.refl _ _), Lib.hid (fun k hk => (blkOf_none k hk).elim)⟩
    case round =>
      obtain ⟨i', n', al, cl, nb, bs, rfl, rfl, rfl, hin', hnn', HNB, hbs, hO, hK, hf⟩ := hrel
      have hlen : nb ≤ 1048576 := by have := HE.out.2.2.2; have h1 := HNB.out; rw [← hbs.out, List.length_append] at this; omega
      by_cases hn1 : 1 < n'
      · have hs1 := splitN_pos (n := n') (by omega)
        have hs2 := splitN_lt (n := n') (by omega)
        have hL := fun h => leftsL_left (i := i') (n := n') (by omega) h
        have hR := fun h => leftsL_right (i := i') (n := n') (by omega) h
        have HS := Lib.hid (refSplit_walk (n' : Int) wr (by omega) (by omega))
        rw [show ((n' : Int)).toNat = n' by omega] at HS
        generalize splitN n' = k at *
        have hn1' : (1 : Int) < n' := by omega
        have hk1 : (k : Int) < n' := by omega
        have hk0 : (1 : Int) ≤ k := by omega
        have hn9' : (n' : Int) ≤ 1048576 := by omega
        have hi9' : (0 : Int) ≤ i' := by omega
        have hi8' : (i' : Int) < n' := by omega
        go_wp2_with fail
        refine HS.out.mono ?_
        rintro e w1 ⟨rfl, rfl⟩
        clear HS
        have hbn := Blk.new wr [.bool (decide (i' < k))] 4
        have hO2 := hO.out.keep0 ((Keeps.refl Nil wr).alloc (.cells #[.bool (decide (i' < k))] 4))
        go_wp2_with (first | (refine wpList_bs rfl 63 4 1 _ rfl [.bool (decide (i' < k))] Tryd.underlying63 Tryd.bsBool rfl (by decide) (by decide) rfl (by simp [Value.cells]) ?_) | (at_builtin; go_must (refine wpl_append rfl _ _ 63 rfl 4 1 1 Tryd.underlying63 Tryd.infoBool (by omega) al cl nb _ rfl hO2 _ 1 1 [.bool (decide (i' < k))] rfl (Src.one hbn rfl) (by unfold maxLen; omega) (by omega) ?_)))
        intro a2 c2 w2 hO3 hk3 hf3 _
        have hK3 : Keeps Nil wA w2 := (hK.out.alloc _).step hk3 (fun k hk => .inr (hf.out k hk))
        have hf4 : ∀ k, blkOf a2 k → wA.heap.size ≤ k := fun k hk => by
          rcases hf3 k hk with h' | h'
          · exact hf.out k h'
          · rw [h']; have := hK.out.size; first | omega | (rw [size_alloc']; omega)
        by_cases hik : i' < k
        · have hik' : (i' : Int) < k := by omega
          have hd : decide (i' < k) = true := by simpa using hik
          rw [hd] at hO3
          have hO4 : Own w2 4 1 a2 c2 (nb + 1) (boolV (bs ++ [true])) := by rw [boolV, List.map_append]; exact hO3
          have hbs2 : (bs ++ [true]) ++ leftsL i' k = LL := by rw [← hbs.out, hL hik, List.append_assoc]; rfl
          have hl2 : (bs ++ [true]).length = nb + 1 := by rw [List.length_append, HNB.out]; rfl
          have HX := Lib.hid (And.intro hbs2 (And.intro hl2 (And.intro hO4 (And.intro hK3 hf4))))
          clear hL hR hbs2 hl2 hO4 hK3 hf4 hO3 hO2 hbn hk3 hf3
          go_wp2_with fail
          go_roundw
          case rel => first | exact ⟨_, _, _, ⟨i', rfl, k, rfl, a2, c2, nb + 1, rfl, hik, by omega, bs ++ [true], Lib.hid HX.out.2.1, Lib.hid HX.out.1, Lib.hid HX.out.2.2.1, Lib.hid HX.out.2.2.2.1, Lib.hid HX.out.2.2.2.2⟩, rfl, rfl, rfl⟩ | ((repeat apply Exists.intro); exact ⟨⟨i', k, a2, c2, nb + 1, bs ++ [true], rfl, rfl, rfl, hik, by omega, Lib.hid HX.out.2.1, Lib.hid HX.out.1, Lib.hid HX.out.2.2.1, Lib.hid HX.out.2.2.2.1, Lib.hid HX.out.2.2.2.2⟩, rfl⟩) | exact ⟨i', k, a2, c2, nb + 1, bs ++ [true], rfl, rfl, rfl, hik, by omega, Lib.hid HX.out.2.1, Lib.hid HX.out.1, Lib.hid HX.out.2.2.1, Lib.hid HX.out.2.2.2.1, Lib.hid HX.out.2.2.2.2⟩
          case measure => simp [intOf]; omega
        · have hik' : ¬ (i' : Int) < k := by omega
          have hd : decide (i' < k) = false := by simpa using hik
          rw [hd] at hO3
          have hO4 : Own w2 4 1 a2 c2 (nb + 1) (boolV (bs ++ [false])) := by rw [boolV, List.map_append]; exact hO3
          have hbs2 : (bs ++ [false]) ++ leftsL (i' - k) (n' - k) = LL := by rw [← hbs.out, hR (by omega), List.append_assoc]; rfl
          have hl2 : (bs ++ [false]).length = nb + 1 := by rw [List.length_append, HNB.out]; rfl
          have HX := Lib.hid (And.intro hbs2 (And.intro hl2 (And.intro hO4 (And.intro hK3 hf4))))
          have h1 : (i' : Int) - k = ((i' - k : Nat) : Int) := by omega
          have h2 : (n' : Int) - k = ((n' - k : Nat) : Int) := by omega
          have HQ := Lib.hid (And.intro h1 h2)
          clear hL hR hbs2 hl2 hO4 hK3 hf4 hO3 hO2 hbn hk3 hf3 h1 h2
          go_wp2_with fail
          rw [HQ.out.1, HQ.out.2]
          go_roundw
          case rel => first | exact ⟨_, _, _, ⟨i' - k, rfl, n' - k, rfl, a2, c2, nb + 1, rfl, by omega, by omega, bs ++ [false], Lib.hid HX.out.2.1, Lib.hid HX.out.1, Lib.hid HX.out.2.2.1, Lib.hid HX.out.2.2.2.1, Lib.hid HX.out.2.2.2.2⟩, rfl, rfl, rfl⟩ | ((repeat apply Exists.intro); exact ⟨⟨i' - k, n' - k, a2, c2, nb + 1, bs ++ [false], rfl, rfl, rfl, by omega, by omega, Lib.hid HX.out.2.1, Lib.hid HX.out.1, Lib.hid HX.out.2.2.1, Lib.hid HX.out.2.2.2.1, Lib.hid HX.out.2.2.2.2⟩, rfl⟩) | exact ⟨i' - k, n' - k, a2, c2, nb + 1, bs ++ [false], rfl, rfl, rfl, by omega, by omega, Lib.hid HX.out.2.1, Lib.hid HX.out.1, Lib.hid HX.out.2.2.1, Lib.hid HX.out.2.2.2.1, Lib.hid HX.out.2.2.2.2⟩
          case measure => simp [intOf]; omega
      · have hn1' : ¬ (1 : Int) < n' := by omega
        have hfin : bs = LL := by rw [← hbs.out, leftsL_none (by omega), List.append_nil]
        subst hfin
        have hbZ1 := hbZ.keep0 hK.out
        have hbX1 := hbX.keep0 hK.out
        have HKW1 := Lib.hid (HKW.out.trans hK.out)
        have HH1 := Lib.hid (HHs.out.keep0 hK.out)
        clear hbZ hbX HKW HHs
        have hbZ := hbZ1
        have HKW := HKW1
        clear hbZ1 HKW1
        have HO := Lib.hid (And.intro hO.out hf.out)
        have HRL := HE.out.1
        have HRU := HE.out.2.1
        have HRV := HE.out.2.2.1
        have HE0 := HE
        rw [HNB.out] at HRL
        clear hO hf HE hbs HLL
        by_cases h2 : m < nb
        · rw [if_pos h2] at HRL
          have HE := Lib.hid (And.intro (HRV (by rw [HRL]; simp)) HRL)
          have h2' : (m : Int) < nb := by omega
          clear HRL HRU HRV HE0 hK
          go_wp2_with (first | (refine wpl_build rfl 26 _ rfl Z [] hbz (by simp [Act.eval]) ?_) | (rw [← HWA.out]; refine wpl_store rfl 26 _ _ rfl (w.heap.size + 1) rfl Z rfl hbZ rfl (by rw [HZ.out]; exact Tryd.infoH) hone ?_) | (refine wpl_store rfl 26 _ _ rfl (w.heap.size + 1) rfl Z rfl hbZ rfl (by rw [HZ.out]; exact Tryd.infoH) hone ?_))
          intro w5 hb4 hk4 _
          go_wp2_with fail
          exact ret_blk_tmp Tryd.results18 (w.heap.size + 1) rfl hb4 _ hUH rfl (by rw [HZ.out]; exact Tryd.infoH) rfl rfl (by unfold RUpPost; rw [HE.out.1, HE.out.2, HZV.out]; exact ⟨rfl, HKW.out.step hk4 HG.out⟩)
        · rw [if_neg h2] at HRL
          by_cases h3 : nb < m
          · rw [if_pos h3] at HRL
            have HE := Lib.hid (And.intro (HRV (by rw [HRL]; simp)) HRL)
            have h2' : ¬ (m : Int) < nb := by omega
            have h3' : (nb : Int) < m := by omega
            clear HRL HRU HRV HE0 hK
            go_wp2_with (first | (refine wpl_build rfl 26 _ rfl Z [] hbz (by simp [Act.eval]) ?_) | (rw [← HWA.out]; refine wpl_store rfl 26 _ _ rfl (w.heap.size + 1) rfl Z rfl hbZ rfl (by rw [HZ.out]; exact Tryd.infoH) hone ?_) | (refine wpl_store rfl 26 _ _ rfl (w.heap.size + 1) rfl Z rfl hbZ rfl (by rw [HZ.out]; exact Tryd.infoH) hone ?_))
            intro w5 hb4 hk4 _
            go_wp2_with fail
            exact ret_blk_tmp Tryd.results18 (w.heap.size + 1) rfl hb4 _ hUH rfl (by rw [HZ.out]; exact Tryd.infoH) rfl rfl (by unfold RUpPost; rw [HE.out.1, HE.out.2, HZV.out]; exact ⟨rfl, HKW.out.step hk4 HG.out⟩)
          · rw [if_neg h3] at HRL
            have hnm : nb = m := by omega
            subst hnm
            have HE := Lib.hid (And.intro (HRU HRL) HRL)
            have h2' : ¬ (nb : Int) < nb := by omega
            clear HRL HRU HRV HE0 hK h2 h3
            have hXl : (byteV X).length = 32 := by rw [byteV_len]; exact hX.1
            have hiX : (Tryd.prog.info? 26).map (·.size) = some (byteV X).length := by rw [hXl]; exact Tryd.infoH
            have hbN := Blk.new wr Z 26
            have hka := (Keeps.refl (One wr.heap.size) wr).alloc (.cells Z.toArray 26)
            have hoX := byteV_one X
            have HB := Lib.hid (And.intro hbZ (And.intro HKW.out (And.intro HH1.out hka)))
            have hxz : (byteV X).length = Z.length := by rw [hXl, HZ.out]
            have HXZ := Lib.hid hxz
            clear hka hbZ HKW HH1 hxz
            obtain ⟨wo, hwo⟩ : ∃ x, x = wr := ⟨_, rfl⟩
            subst hwo
            go_wp2_with (first | (refine wpl_load rfl 26 _ rfl w.heap.size rfl hbX1 _ hUH rfl hiX ?_) | (refine wpl_store rfl 26 _ _ rfl wo.heap.size rfl (byteV X) rfl hbN HXZ.out hiX hoX ?_))
            intro w3 hb3 hk3 _
            have hK := HB.out.2.2.2.trans hk3
            have HK3 := Lib.hid (HB.out.2.1.step hK (fun i hi => .inr (by rw [show i = wo.heap.size from hi]; exact HB.out.2.1.size)))
            have HH3 := Lib.hid (HB.out.2.2.1.keepF hK (fun k _ hl e => by have e' : k = wo.heap.size := e; omega))
            have HO3 := Lib.hid (HO.out.1.keep hK (fun k hk e => by have h1 := HO.out.1.lt k hk; have e' : k = wo.heap.size := e; omega))
            have hne : w.heap.size + 1 ≠ wo.heap.size := by have := HB.out.1.lt; omega
            have HZ3 := Lib.hid (HB.out.1.keep hK hne)
            have HPB := Lib.hid (fun k (hk : blkOf a k) (h0 : 0 < P.length) => show k < wo.heap.size by
              obtain ⟨b, off, ha, hb, _⟩ := HB.out.2.2.1.rng h0
              rw [ha, blkOf_some] at hk
              omega)
            have HAL := Lib.hid HO.out.1.lt
            have hgw : w.heap.size ≤ wo.heap.size := HB.out.2.1.size
            clear hk3 hbN hK hbX1 HB HO hoX HXZ
            generalize wo.heap.size = g12 at *
            go_wp2_with fail
            go_loopw [13] (fun vj wr => ∃ j : Nat, vj = .int .i64 j ∧ j ≤ nb ∧ Hid (Blk wr g12 (byteV (upR X bs P j)) 26) ∧ Hid (Keeps (One g12) w3 wr)) (fun vj _ => nb - (intOf vj).toNat)
            case atStart => exact ⟨0, rfl, Nat.zero_le _, Lib.hid hb3, Lib.hid (Keeps.refl _ _)⟩
            case round =>
              obtain ⟨j, rfl, hj, hbj, hkj⟩ := hrel
              clear hb3
              have hHr := upR_is hX bs P j
              have hHl : (byteV (upR X bs P j)).length = 32 := by rw [byteV_len]; exact hHr.1
              have hiH : (Tryd.prog.info? 26).map (·.size) = some (byteV (upR X bs P j)).length := by rw [hHl]; exact Tryd.infoH
              by_cases hjn : j < nb
              · have hstep : upR X bs P (j + 1) = stepUp (upR X bs P j) (bs.getD (nb - 1 - j) false) (P.getD j []) := by rw [upR, HNB.out]
                have hnext := upR_is hX bs P (j + 1)
                have hNl : (byteV (upR X bs P (j + 1))).length = 32 := by rw [byteV_len]; exact hnext.1
                have hiN : (Tryd.prog.info? 26).map (·.size) = some (byteV (upR X bs P (j + 1))).length := by rw [hNl]; exact Tryd.infoH
                have hoN := byteV_one (upR X bs P (j + 1))
                obtain ⟨bP, off, ha, hbP, hrng⟩ := HH3.out.rng (by rw [HM.out]; omega)
                have hpj := HH3.out.are.at_ (i := j) (by rw [HM.out]; exact hjn)
                have hld := rangeAt_keep (hrng j (by rw [HM.out]; exact hjn)) hkj.out (fun e => by
                  have e' : bP = g12 := e
                  have := HPB.out bP ⟨_, ha, rfl⟩ (by rw [HM.out]; omega)
                  omega)
                have hiP : (Tryd.prog.info? 26).map (·.size) = some (byteV (P.getD j [])).length := by rw [byteV_len, hpj.1]; exact Tryd.infoH
                obtain ⟨gb, hgb, hgl, hbr⟩ := HO3.out.some (by omega)
                have hbc : wr.cell? ⟨gb, nb - 1 - j, none⟩ = some (.bool (bs.getD (nb - 1 - j) false)) := by
                  have h1 := hbr (nb - 1 - j) (.bool (bs.getD (nb - 1 - j) false)) (by
                    have := HNB.out
                    simp [boolV, List.getD, show nb - 1 - j < bs.length by omega])
                  rw [Nat.zero_add] at h1
                  exact hkj.out.cell h1 (fun e => by
                    have e' : gb = g12 := e
                    have := HAL.out gb (by rw [hgb]; exact (blkOf_some _ _ _ _).2 rfl)
                    omega)
                subst ha hgb
                have hne2 : ¬ One g12 bP := fun e => by
                  have e' : bP = g12 := e
                  have := HPB.out bP ((blkOf_some _ _ _ _).2 rfl) (by rw [HM.out]; omega)
                  omega
                have hjI : (j : Int) < nb := by omega
                have hj0 : (0 : Int) ≤ j := by omega
                have hnbI : (nb : Int) ≤ 1048576 := by omega
                have hix1 : (nb : Int) - 1 - j = ((nb - 1 - j : Nat) : Int) := by omega
                have hix2 : nb - 1 - j < nb := by omega
                have hcj : (j : Int) < cap := by omega
                have HST := Lib.hid hstep
                have hbj' := hbj.out
                clear hrng hbr hstep
                generalize bs.getD (nb - 1 - j) false = bv at *
                generalize P.getD j [] = pj at *
                generalize hqq : nb - 1 - j = qq at *
                clear hqq
                have hqI : (qq : Int) < nb := by omega
                have hq0 : (0 : Int) ≤ qq := by omega
                generalize hHN : upR X bs P (j + 1) = HN at *
                have HEQ := Lib.hid hHN
                clear hHN
                generalize upR X bs P j = HJ at *
                cases bv with
                | true =>
                  go_wp2_with fail
                  refine wp_region_held_drew (S := fun w' => Keeps (One g12) wr.drew w') (by kernel_rfl) (Keeps.refl _ _) (fun hHeld => ?_)
                  have hKB := hkj.out.drew
                  replace hbj' := hbj'.drew
                  replace hld := rangeAt_keep hld (Keeps.refl Nil wr).drew (fun h => h)
                  generalize wr.drew = v0 at *
                  refine takeL (i := 1) (v := _) rfl (by kernel_rfl) (by kernel_rfl) (by kernel_rfl) (fun _ _ _ h => h) (Or.inl ⟨by rfl, by intro w hSw; (try dsimp only at hSw); go_simp; try with_reducible rfl⟩) (by assumption) ?_
                  try simp only [Act.put, List.setIfInBounds_toArray, List.set_cons_zero, List.set_cons_succ]
                  refine takeL (i := 2) (v := _) rfl (by kernel_rfl) (by kernel_rfl) (by kernel_rfl) (fun _ _ _ h => h) (Or.inl ⟨by rfl, by intro w hSw; (try dsimp only at hSw); go_simp; try with_reducible rfl⟩) (by assumption) ?_
                  try simp only [Act.put, List.setIfInBounds_toArray, List.set_cons_zero, List.set_cons_succ]
                  refine takeL (i := 3) (v := _) rfl (by kernel_rfl) (by kernel_rfl) (by kernel_rfl) (fun _ _ _ h => h) (Or.inl ⟨by rfl, by intro w hSw; (try dsimp only at hSw); go_simp; try with_reducible rfl⟩) (by assumption) ?_
                  try simp only [Act.put, List.setIfInBounds_toArray, List.set_cons_zero, List.set_cons_succ]
                  refine takeL (i := 4) (v := _) rfl (by kernel_rfl) (by kernel_rfl) (by kernel_rfl) (fun _ _ _ h => h) (yieldsIf_load_mid (by rfl) 26 _ rfl bP (off+j*32) rfl (byteV pj) _ (fun w hSw => (rangeAt_keep hld hSw hne2)) hUH rfl hiP) (by assumption) ?_
                  try simp only [Act.put, List.setIfInBounds_toArray, List.set_cons_zero, List.set_cons_succ]
                  refine onlyL (i := 0) rfl (by kernel_rfl) (fun K hK => ?_)
                  refine step_load rfl 26 _ rfl g12 0 rfl (byteV HJ) hbj'.range0 _ hUH rfl hiH ?_
                  refine (fun hHeld => hK _ _ hHeld ?_) ((Keeps.refl _ _))
                  clear hK
                  try simp only [Act.put, List.setIfInBounds_toArray, List.set_cons_zero, List.set_cons_succ]
                  refine onlyL (i := 5) rfl (by kernel_rfl) (fun K hK => ?_)
                  go_simp
                  refine (refNode_walk hHr hpj).mono ?_
                  rintro e w5 ⟨rfl, qk⟩
                  rw [show nodeL HJ pj = HN by rw [HST.out]; rfl]
                  have hb5 := hbj'.keep0 qk
                  refine (fun hHeld => hK _ _ hHeld ?_) (qk.nil)
                  clear hK
                  try simp only [Act.put, List.setIfInBounds_toArray, List.set_cons_zero, List.set_cons_succ]
                  refine onlyL (i := 6) rfl (by kernel_rfl) (fun K hK => ?_)
                  refine step_store rfl 26 _ _ rfl g12 rfl (byteV HN) rfl hb5 (by rw [hNl, hHl]) hiN hoN ?_
                  intro w6 hb6 hk6 _
                  refine (fun hHeld => hK _ _ hHeld ?_) ((qk.nil.trans hk6))
                  clear hK
                  try simp only [Act.put, List.setIfInBounds_toArray, List.set_cons_zero, List.set_cons_succ]
                  refine wpAnyH_done (by kernel_rfl) ?_ _
                  have HF := Lib.hid (And.intro hb6 (hKB.trans (qk.nil.trans hk6)))
                  clear hb6 hk6 qk hb5 hKB hbj' hld hbc
                  go_wp2_with fail
                  exact ⟨⟨j + 1, by go_num, by omega, Lib.hid (by rw [HEQ.out]; exact HF.out.1), Lib.hid HF.out.2⟩, by simp [intOf]; omega⟩
                | false =>
                  go_wp2_with fail
                  refine wp_region_held_drew (S := fun w' => Keeps (One g12) wr.drew w') (by kernel_rfl) (Keeps.refl _ _) (fun hHeld => ?_)
                  have hKB := hkj.out.drew
                  replace hbj' := hbj'.drew
                  replace hld := rangeAt_keep hld (Keeps.refl Nil wr).drew (fun h => h)
                  generalize wr.drew = v0 at *
                  refine takeL (i := 0) (v := _) rfl (by kernel_rfl) (by kernel_rfl) (by kernel_rfl) (fun _ _ _ h => h) (Or.inl ⟨by rfl, by intro w hSw; (try dsimp only at hSw); go_simp; try with_reducible rfl⟩) (by assumption) ?_
                  try simp only [Act.put, List.setIfInBounds_toArray, List.set_cons_zero, List.set_cons_succ]
                  refine takeL (i := 1) (v := _) rfl (by kernel_rfl) (by kernel_rfl) (by kernel_rfl) (fun _ _ _ h => h) (Or.inl ⟨by rfl, by intro w hSw; (try dsimp only at hSw); go_simp; try with_reducible rfl⟩) (by assumption) ?_
                  try simp only [Act.put, List.setIfInBounds_toArray, List.set_cons_zero, List.set_cons_succ]
                  refine takeL (i := 2) (v := _) rfl (by kernel_rfl) (by kernel_rfl) (by kernel_rfl) (fun _ _ _ h => h) (Or.inl ⟨by rfl, by intro w hSw; (try dsimp only at hSw); go_simp; try with_reducible rfl⟩) (by assumption) ?_
                  try simp only [Act.put, List.setIfInBounds_toArray, List.set_cons_zero, List.set_cons_succ]
                  refine takeL (i := 3) (v := _) rfl (by kernel_rfl) (by kernel_rfl) (by kernel_rfl) (fun _ _ _ h => h) (yieldsIf_load_mid (by rfl) 26 _ rfl bP (off+j*32) rfl (byteV pj) _ (fun w hSw => (rangeAt_keep hld hSw hne2)) hUH rfl hiP) (by assumption) ?_
                  try simp only [Act.put, List.setIfInBounds_toArray, List.set_cons_zero, List.set_cons_succ]
                  refine onlyL (i := 4) rfl (by kernel_rfl) (fun K hK => ?_)
                  refine step_load rfl 26 _ rfl g12 0 rfl (byteV HJ) hbj'.range0 _ hUH rfl hiH ?_
                  refine (fun hHeld => hK _ _ hHeld ?_) ((Keeps.refl _ _))
                  clear hK
                  try simp only [Act.put, List.setIfInBounds_toArray, List.set_cons_zero, List.set_cons_succ]
                  refine onlyL (i := 5) rfl (by kernel_rfl) (fun K hK => ?_)
                  go_simp
                  refine (refNode_walk hpj hHr).mono ?_
                  rintro e w5 ⟨rfl, qk⟩
                  rw [show nodeL pj HJ = HN by rw [HST.out]; rfl]
                  have hb5 := hbj'.keep0 qk
                  refine (fun hHeld => hK _ _ hHeld ?_) (qk.nil)
                  clear hK
                  try simp only [Act.put, List.setIfInBounds_toArray, List.set_cons_zero, List.set_cons_succ]
                  refine onlyL (i := 6) rfl (by kernel_rfl) (fun K hK => ?_)
                  refine step_store rfl 26 _ _ rfl g12 rfl (byteV HN) rfl hb5 (by rw [hNl, hHl]) hiN hoN ?_
                  intro w6 hb6 hk6 _
                  refine (fun hHeld => hK _ _ hHeld ?_) ((qk.nil.trans hk6))
                  clear hK
                  try simp only [Act.put, List.setIfInBounds_toArray, List.set_cons_zero, List.set_cons_succ]
                  refine wpAnyH_done (by kernel_rfl) ?_ _
                  have HF := Lib.hid (And.intro hb6 (hKB.trans (qk.nil.trans hk6)))
                  clear hb6 hk6 qk hb5 hKB hbj' hld hbc
                  go_wp2_with fail
                  exact ⟨⟨j + 1, by go_num, by omega, Lib.hid (by rw [HEQ.out]; exact HF.out.1), Lib.hid HF.out.2⟩, by simp [intOf]; omega⟩
              · obtain rfl : j = nb := by omega
                have hjI : ¬ (j : Int) < j := by omega
                have hbj' := hbj.out
                have hZ4 := HZ3.out.keep hkj.out (fun e => hne e)
                have HKF := Lib.hid (HK3.out.step hkj.out (fun i hi => .inr (by rw [show i = g12 from hi]; exact hgw)))
                have hoH := byteV_one (upR X bs P j)
                go_wp2_with (first | (refine wpl_load rfl 26 _ rfl g12 rfl hbj' _ hUH rfl hiH ?_) | (refine wpl_store rfl 26 _ _ rfl (w.heap.size + 1) rfl (byteV (upR X bs P j)) rfl hZ4 (by rw [hHl, HZ.out]) hiH hoH ?_))
                intro w7 hb7 hk7 _
                go_wp2_with fail
                exact ret_blk_tmp Tryd.results18 (w.heap.size + 1) rfl hb7 _ hUH rfl hiH rfl rfl (by unfold RUpPost; rw [HE.out.1, HE.out.2]; exact ⟨rfl, HKF.out.step hk7 HG.out⟩)
end Go.Proofs.YtmbdldnldcgdjaaDoor
