/-
  courierref1.Mac: the document's digest by a key.
-/
import Derived.Test.YtnkahfpinkgimaaDoorMacPlain
import Derived.Test.YtnkahfpinkgimaaDoorRefSum
namespace Go.Proofs.YtnkahfpinkgimaaDoor
set_option linter.unusedSimpArgs false
set_option linter.unusedVariables false
open Go.RowKit

theorem xorK_take_succ (l : List Int) (c : Int) (i : Nat) (h : i < l.length) : xorK (l.take i) c ++ [bits .xor .u8 (l.getD i 0) c] = xorK (l.take (i + 1)) c := by
  rw [List.take_succ_eq_append_getElem h]
  simp only [xorK, List.map_append, List.map_cons, List.map_nil, List.getD, List.getElem?_eq_getElem h, Option.getD_some]
theorem fill_succ (k : List Int) (j : Nat) : (k ++ List.replicate j 0) ++ [0] = k ++ List.replicate (j + 1) 0 := by rw [List.append_assoc, List.replicate_succ']
theorem fill_full (k : List Int) (j : Nat) (h : k.length + j = 64) : k ++ List.replicate j 0 = fillK k := by
  unfold fillK
  rw [show 64 - k.length = j by omega]
/-- A slice of bytes of one's own, new since w. -/
structure OwnB (w : World) (a : Option Addr) (cap n : Nat) (l : List Int) (wr : World) : Prop where
  own : Own wr 5 1 a cap n (byteV l)
  keep : Keeps Nil w wr
  fresh : ∀ k, blkOf a k → w.heap.size ≤ k
theorem OwnB.push {w wr w2 w3 : World} {a a' : Option Addr} {cap cap' n : Nat} {l : List Int} {x : Int} (h : OwnB w a cap n l wr) (hk : Keeps Nil wr w2) (ho : Own w3 5 1 a' cap' (n + 1) (byteV l ++ [.int .u8 x])) (hk3 : Keeps (blkOf a) w2 w3) (hf : ∀ k, blkOf a' k → blkOf a k ∨ wr.heap.size ≤ k) : OwnB w a' cap' (n + 1) (l ++ [x]) w3 :=
  ⟨by simpa [byteV] using ho, (h.keep.trans hk).step hk3 (fun i hi => .inr (h.fresh i hi)), fun k hk' => by
    rcases hf k hk' with h' | h'
    · exact h.fresh k h'
    · exact Nat.le_trans h.keep.size h'⟩

def sliceLen : Value → Nat
  | .slice _ n _ => n
  | _ => 0
set_option maxRecDepth 20000 in
set_option maxHeartbeats 3200000 in
theorem refMac_walk {w : World} {a : Option Addr} {n cap : Nat} {key : List Int} (hr : Row .u8 w a n key) {am : Option Addr} {m cm : Nat} {msg : List Int} (hm : Row .u8 w am m msg) (hnm : am = none → cm = 0 ∧ m = 0) (hn : n ≤ 100000) (hml : m ≤ 100000) :
    Calls Tryd.prog 19 #[.slice a n cap, .slice am m cm] w fun e w' => e = .returned (keyV (macL key msg)) ∧ Keeps Nil w w' := by
  have hzv := Tryd.zeroH32
  have HZ32 := Lib.hid (show (byteV z32).length = 32 by rw [byteV_len, z32_len])
  generalize byteV z32 = Z at *
  have hkl := hr.llen
  obtain ⟨wA, hwA, hbR, hkA, hsA⟩ : ∃ wA, wA = w.alloc (.cells Z.toArray 36) ∧ Blk wA w.heap.size Z 36 ∧ Keeps Nil w wA ∧ wA.heap.size = w.heap.size + 1 := ⟨_, rfl, Blk.new w Z _, (Keeps.refl Nil w).alloc _, size_alloc' _ _⟩
  have HWA := Lib.hid hwA
  clear hwA
  have HB := Lib.hid (refBytes_walk (cap := cap) (hr.keep hkA) (by omega))
  have hkb := hr.bytes
  have hmA := hm.keep hkA
  clear hr hm
  by_cases h64 : 64 < n
  · have hpad : padK key = fillK (digest key) := by unfold padK fitK; rw [if_pos (by omega)]
    go_enter Tryd.func19, Tryd.ntmps19
    go_wp2_with fail
    rw [← HWA.out]
    refine HB.out.mono ?_
    rintro e w1 ⟨a1, c1, rfl, ho1, hk1, hf1⟩
    rw [hkl] at ho1 ⊢
    have HS := Lib.hid (refSum_walk (cap := c1) (ho1.row (areB_wf hkb)) (by omega))
    clear HB ho1 hf1
    go_wp2_with fail
    refine HS.out.mono ?_
    rintro e w2 ⟨rfl, hk2⟩
    have hK2 := hk1.trans hk2
    have hb := Blk.new w2 Z 36
    have hka := (Keeps.refl Nil w2).alloc (.cells Z.toArray 36)
    have hdl := digest_len key
    have hdb := digest_bytes key
    have hdv : (byteV (digest key)).length = 32 := by rw [byteV_len, hdl]
    clear HS hk1 hk2
    go_wp2_with (refine wpl_store rfl 36 _ _ rfl w2.heap.size rfl (byteV (digest key)) rfl hb (by rw [hdv, HZ32.out]) (by rw [hdv]; exact Tryd.infoH) (byteV_one _) ?_)
    intro w3 hb3 hk3 hs3
    clear hs3
    have hk23 : Keeps Nil w2 w3 := hka.step hk3 (fun i hi => .inr (by rw [show i = w2.heap.size from hi]; exact Nat.le_refl _))
    have hK3 := hK2.trans hk23
    have HB := Lib.hid (refBytes_walk (cap := 32) (hb3.row8 hdb hdl (by omega)) (by omega))
    clear hb hka hk3 hk23 hb3
    generalize hD : digest key = D at *
    clear hD
    go_wp2_with fail
    refine HB.out.mono ?_
    rintro e wK ⟨aK, cK, rfl, hoK, hkK, hfK⟩
    rw [hdl] at hoK ⊢
    have hKK := hK3.trans hkK
    have hfK : ∀ k, blkOf aK k → wA.heap.size ≤ k := fun k hk => Nat.le_trans hK3.size (hfK k hk)
    have hbK := hdb
    have hlK := hdl
    clear HB hK3 hkK hK2 hdb hdl
    -- own K: hoK : Own wK u8 1 aK cK 32 (byteV D); hKK : Keeps Nil wA wK; hfK: new since wA; hlK : D.length = 32; hbK : AreB D; hbR : Blk wA ..; hpad : padK key = fillK D
    have HG := Lib.hid (show OwnB wA aK cK (32 + 0) (D ++ List.replicate 0 0) wK from ⟨by simpa using hoK, hKK, hfK⟩)
    clear hoK hfK hKK
    go_wp2_with fail
    go_loopw [5] (fun v wr => ∃ (j : Nat) (a' : Option Addr) (c' : Nat), 32 + j ≤ 64 ∧ v = .slice a' (32 + j) c' ∧ Hid (OwnB wA a' c' (32 + j) (D ++ List.replicate j 0) wr)) (fun v _ => 64 - sliceLen v)
    case atStart => exact ⟨0, aK, cK, by omega, rfl, HG.out⟩
    case round =>
      obtain ⟨j, a', c', hj, rfl, hO⟩ := hrel
      clear HG
      by_cases hj64 : 32 + j < 64
      · have hfs := fill_succ D j
        have HFS := Lib.hid hfs
        have HO := hO.out
        clear hfs
        have hNJ : 32 + (j + 1) = 32 + j + 1 := by omega
        have HNJ := Lib.hid hNJ
        clear hNJ
        generalize hnj : 32 + j = NJ at *
        have HNN := Lib.hid hnj
        clear hnj
        have hjI : (NJ : Int) < 64 := by omega
        go_wp2_with (first | (refine wpList_bs rfl 27 5 1 _ rfl [.int .u8 (0)] Tryd.underlying27 Tryd.bs8 rfl (by decide) (by decide) rfl (by simp [Value.cells]) ?_) | (at_builtin; go_must (refine wpl_append rfl _ _ 27 rfl 5 1 1 Tryd.underlying27 Tryd.info8s (by omega) _ _ (NJ) _ rfl (HO.own.keep0 ((Keeps.refl _ _).alloc _)) _ 1 1 [.int .u8 (0)] rfl (Src.one (Blk.new _ _ _) rfl) (by unfold maxLen; omega) (by omega) ?_)))
        intro a2 c2 w2 o2 k2 f2 _
        have hn := HO.push ((Keeps.refl _ _).alloc _) o2 k2 (fun k hk => (f2 k hk).imp id (fun h => by omega))
        rw [HFS.out] at hn
        have HN := Lib.hid hn
        clear hn o2 k2 f2 HO
        go_wp2_with fail
        rw [← HNJ.out] at HN
        exact ⟨⟨j + 1, a2, c2, by have := HNJ.out; omega, by rw [HNJ.out], HN.out⟩, by simp only [sliceLen]; omega⟩
      · obtain rfl : j = 64 - 32 := by omega
        have hO2 := hO.out
        have e64 : 32 + (64 - 32) = 64 := by omega
        rw [fill_full D (64 - 32) (by omega), e64] at hO2
        have hFl : (fillK D).length = 64 := fillK_len _ (by omega)
        have hFb : AreB (fillK D) := areB_append hbK (areB_zeros _)
        have hrF := hO2.own.row (areB_wf hFb)
        obtain ⟨gf, ha', _, _⟩ := hO2.own.some (by omega)
        have HMM := Lib.hid (show macL key msg = digest (xorK (fillK D) 92 ++ digest (xorK (fillK D) 54 ++ msg)) by rw [macL_eq, hpad])
        have hbRF := hbR.keep0 hO2.keep
        have hKF := hO2.keep
        have hmF := hmA.keep hO2.keep
        rw [e64]
        subst ha'
        clear hO hO2 e64 hpad hj hj64 hbK hlK
        generalize fillK D = F at *
        generalize wr = wF at *
        have HI0 := Lib.hid (show OwnB wF none 0 0 (xorK (F.take 0) 54) wF ∧ OwnB wF none 0 0 (xorK (F.take 0) 92) wF ∧ (∀ k, blkOf (none : Option Addr) k → ¬ blkOf none k) from ⟨⟨by simpa [xorK, byteV] using Own.nil _ _ _, Keeps.refl _ _, fun k hk => (blkOf_none k hk).elim⟩, ⟨by simpa [xorK, byteV] using Own.nil _ _ _, Keeps.refl _ _, fun k hk => (blkOf_none k hk).elim⟩, fun k hk => (blkOf_none k hk).elim⟩)
        go_wp2_with fail
        go_loopw [7, 8, 9] (fun x y v wr => ∃ (i : Nat) (ai : Option Addr) (ci : Nat) (ao : Option Addr) (co : Nat), i ≤ 64 ∧ x = .slice ai i ci ∧ y = .slice ao i co ∧ v = .int .i64 i ∧ Hid (OwnB wF ai ci i (xorK (F.take i) 54) wr ∧ OwnB wF ao co i (xorK (F.take i) 92) wr ∧ (∀ k, blkOf ai k → ¬ blkOf ao k))) (fun _ _ v _ => 64 - (intOf v).toNat)
        case atStart => exact ⟨0, none, 0, none, 0, by omega, rfl, rfl, rfl, HI0.out⟩
        case round =>
          obtain ⟨i, ai, ci, ao, co, hi, rfl, rfl, rfl, hII⟩ := hrel
          clear HI0
          obtain ⟨hI, hO, hap⟩ := hII.out
          by_cases hi64 : i < 64
          · obtain ⟨gb, off, hgb, _, hcF⟩ := (hrF.keep hI.keep).cell (by omega)
            cases hgb
            have x1 := hcF i hi64
            rw [Nat.zero_add] at x1
            have hxs1 := xorK_take_succ F 54 i (by omega)
            have hxs2 := xorK_take_succ F 92 i (by omega)
            have HXS := Lib.hid (And.intro hxs1 hxs2)
            clear hxs1 hxs2 hcF
            generalize F.getD i 0 = y at *
            have hltO := hO.own.lt
            have HF := Lib.hid hrF
            go_wp2_with (first | (refine wpList_bs rfl 27 5 1 _ rfl [.int .u8 (bits .xor .u8 y 54)] Tryd.underlying27 Tryd.bs8 rfl (by decide) (by decide) rfl (by simp [Value.cells]) ?_) | (at_builtin; go_must (refine wpl_append rfl _ _ 27 rfl 5 1 1 Tryd.underlying27 Tryd.info8s (by omega) _ _ (i) _ rfl (hI.own.keep0 ((Keeps.refl _ _).alloc _)) _ 1 1 [.int .u8 (bits .xor .u8 y 54)] rfl (Src.one (Blk.new _ _ _) rfl) (by unfold maxLen; omega) (by omega) ?_)))
            intro a3 c3 w3 o3 k3 f3 _
            have f3 : ∀ k, blkOf a3 k → blkOf ai k ∨ wr.heap.size ≤ k := fun k hk => (f3 k hk).imp id (fun h => by omega)
            have hI3 := hI.push ((Keeps.refl _ _).alloc _) o3 k3 f3
            rw [HXS.out.1] at hI3
            have hO3 : OwnB wF ao co i (xorK (F.take i) 92) w3 := ⟨(hO.own.keep0 ((Keeps.refl _ _).alloc _)).keep k3 (fun k hk hs => hap k hs hk), hI3.keep, hO.fresh⟩
            have hap3 : ∀ k, blkOf a3 k → ¬ blkOf ao k := fun k hk hk' => by
              rcases f3 k hk with h | h
              · exact hap k h hk'
              · have := hltO k hk'; omega
            obtain ⟨gb, off, hgb, _, hcF⟩ := (HF.out.keep hI3.keep).cell (by omega)
            cases hgb
            have x3 := hcF i hi64
            rw [Nat.zero_add] at x3
            have hyy : F.getD i 0 = y := by
              have h0 := hcF i hi64
              obtain ⟨gb, off, hgb, _, hcG⟩ := (HF.out.keep hI.keep).cell (by omega)
              cases hgb
              have h1 := hcG i hi64
              rw [Nat.zero_add, x1] at h1
              injection h1 with h1
              injection h1 with _ h1
              exact h1.symm
            rw [hyy] at x3
            have hltI := hI3.own.lt
            clear hcF hyy o3 k3 f3 hI hO hap hltO x1 hII
            go_wp2_with (first | (refine wpList_bs rfl 27 5 1 _ rfl [.int .u8 (bits .xor .u8 y 92)] Tryd.underlying27 Tryd.bs8 rfl (by decide) (by decide) rfl (by simp [Value.cells]) ?_) | (at_builtin; go_must (refine wpl_append rfl _ _ 27 rfl 5 1 1 Tryd.underlying27 Tryd.info8s (by omega) _ _ (i) _ rfl (hO3.own.keep0 ((Keeps.refl _ _).alloc _)) _ 1 1 [.int .u8 (bits .xor .u8 y 92)] rfl (Src.one (Blk.new _ _ _) rfl) (by unfold maxLen; omega) (by omega) ?_)))
            intro a4 c4 w4 o4 k4 f4 _
            have f4 : ∀ k, blkOf a4 k → blkOf ao k ∨ w3.heap.size ≤ k := fun k hk => (f4 k hk).imp id (fun h => by omega)
            have hO4 := hO3.push ((Keeps.refl _ _).alloc _) o4 k4 f4
            rw [HXS.out.2] at hO4
            have hI4 : OwnB wF a3 c3 (i + 1) (xorK (F.take (i + 1)) 54) w4 := ⟨(hI3.own.keep0 ((Keeps.refl _ _).alloc _)).keep k4 (fun k hk hs => hap3 k hk hs), hO4.keep, hI3.fresh⟩
            have hap4 : ∀ k, blkOf a3 k → ¬ blkOf a4 k := fun k hk hk' => by
              rcases f4 k hk' with h | h
              · exact hap3 k hk h
              · have := hltI k hk; omega
            have HN := Lib.hid (And.intro hI4 (And.intro hO4 hap4))
            clear o4 k4 f4 hI3 hO3 hap3 hltI x3 hI4 hO4 hap4 HXS
            go_wp2_with fail
            exact ⟨⟨i + 1, a3, c3, a4, c4, by omega, rfl, rfl, by go_num, HN.out⟩, by simp [intOf]; omega⟩
          · obtain rfl : i = 64 := by omega
            rw [List.take_of_length_le (by omega)] at hI hO
            have hxI := xorK_bytes F 54
            have hlI : (xorK F 54).length = 64 := by rw [xorK_len, hFl]
            have hxO := xorK_bytes F 92
            have hlO : (xorK F 92).length = 64 := by rw [xorK_len, hFl]
            generalize xorK F 54 = IN at *
            generalize xorK F 92 = OU at *
            have hbRr := hbRF.keep0 hI.keep
            have hmr := (hmF.keep hI.keep).src hnm (cap := cm)
            have hmb := hmA.bytes
            have hml2 := hmA.llen
            have hKr := hKF.trans hI.keep
            have hlto := hO.own.lt
            clear hII hrF hmF hmA hbRF
            go_wp2_with (at_builtin; refine wpl_append rfl _ _ 27 rfl 5 1 1 Tryd.underlying27 Tryd.info8s (by omega) ai ci 64 _ rfl hI.own _ m cm (msg.map (Value.int .u8)) rfl hmr (by unfold maxLen; omega) (by omega) ?_)
            intro a5 c5 w5 o5 k5 f5 _
            have hO5 := hO.own.keep k5 (fun k hk hs => hap k hs hk)
            have hKA5 : Keeps Nil wA w5 := hKr.step k5 (fun i hi => .inr (Nat.le_trans hKF.size (hI.fresh i hi)))
            have hb5 : AreB (IN ++ msg) := areB_append hxI hmb
            have hr5 : Row .u8 w5 a5 (64 + m) (IN ++ msg) := by
              have := o5
              rw [show byteV IN ++ msg.map (Value.int .u8) = byteV (IN ++ msg) by simp [byteV]] at this
              exact this.row (areB_wf hb5)
            have HS := Lib.hid (refSum_walk (cap := c5) hr5 (by omega))
            have hfO := hO.fresh
            have hlt5 := hO5.lt
            clear hI hO hap hmr o5 k5 f5 hr5 hKr hbRr
            go_wp2_with fail
            refine HS.out.mono ?_
            rintro e w6 ⟨rfl, hk6⟩
            have hO6 := hO5.keep0 hk6
            have hKA6 := hKA5.trans hk6
            have hb := Blk.new w6 Z 36
            have hka := (Keeps.refl Nil w6).alloc (.cells Z.toArray 36)
            have hdl := digest_len (IN ++ msg)
            have hdb := digest_bytes (IN ++ msg)
            have hdv : (byteV (digest (IN ++ msg))).length = 32 := by rw [byteV_len, hdl]
            generalize digest (IN ++ msg) = D6 at *
            clear HS hO5 hKA5 hk6
            go_wp2_with (refine wpl_store rfl 36 _ _ rfl w6.heap.size rfl (byteV D6) rfl hb (by rw [hdv, HZ32.out]) (by rw [hdv]; exact Tryd.infoH) (byteV_one _) ?_)
            intro w7 hb7 hk7 hs7
            clear hs7
            have hk67 : Keeps Nil w6 w7 := hka.step hk7 (fun i hi => .inr (by rw [show i = w6.heap.size from hi]; exact Nat.le_refl _))
            have hO7 := hO6.keep0 hk67
            have hKA7 := hKA6.trans hk67
            have hr7 := (hb7.row8 hdb hdl (by omega)).src (cap := 32) (fun h => by cases h)
            clear hb hka hk7 hk67 hO6 hKA6 hb7
            generalize w6.heap.size = g6 at *
            go_wp2_with (at_builtin; refine wpl_append rfl _ _ 27 rfl 5 1 1 Tryd.underlying27 Tryd.info8s (by omega) ao co 64 _ rfl hO7 _ 32 32 (D6.map (Value.int .u8)) rfl hr7 (by unfold maxLen; omega) (by omega) ?_)
            intro a8 c8 w8 o8 k8 f8 _
            have hKA8 : Keeps Nil wA w8 := hKA7.step k8 (fun i hi => .inr (Nat.le_trans hKF.size (hfO i hi)))
            have hb8 : AreB (OU ++ D6) := areB_append hxO hdb
            have hr8 : Row .u8 w8 a8 (64 + 32) (OU ++ D6) := by
              have := o8
              rw [show byteV OU ++ D6.map (Value.int .u8) = byteV (OU ++ D6) by simp [byteV]] at this
              exact this.row (areB_wf hb8)
            have HS := Lib.hid (refSum_walk (cap := c8) hr8 (by omega))
            clear o8 k8 f8 hr8 hO7 hKA7 hr7
            go_wp2_with fail
            refine HS.out.mono ?_
            rintro e w9 ⟨rfl, hk9⟩
            have hKA9 := hKA8.trans hk9
            have hbR9 := hbR.keep0 hKA9
            have hRl : (byteV (digest (OU ++ D6))).length = 32 := by rw [byteV_len, digest_len]
            have hRo := byteV_one (digest (OU ++ D6))
            have hmm := HMM.out
            generalize digest (OU ++ D6) = R at *
            clear HS hKA8 hk9
            go_wp2_with (refine wpl_store rfl 36 _ _ rfl w.heap.size rfl (byteV R) rfl hbR9 (by rw [hRl, HZ32.out]) (by rw [hRl]; exact Tryd.infoH) hRo ?_)
            intro w10 hb10 hk10 _
            go_wp2_with fail
            refine ret_blk Tryd.results19 w.heap.size rfl hb10 _ Tryd.undH rfl (by rw [hRl]; exact Tryd.infoH) rfl ⟨by rw [hmm], (hkA.trans hKA9).step hk10 (fun i hi => .inr (by rw [show i = w.heap.size from hi]; exact Nat.le_refl _))⟩
  · have hpad : padK key = fillK key := by unfold padK fitK; rw [if_neg (by omega)]
    go_enter Tryd.func19, Tryd.ntmps19
    go_wp2_with fail
    rw [← HWA.out]
    refine HB.out.mono ?_
    rintro e wK ⟨aK, cK, rfl, hoK, hKK, hfK⟩
    rw [hkl] at hoK ⊢
    have hbK := hkb
    have hlK := hkl
    clear HB hkl hkb
    -- own K: hoK : Own wK u8 1 aK cK n (byteV key); hKK : Keeps Nil wA wK; hfK: new since wA; hlK : key.length = n; hbK : AreB key; hbR : Blk wA ..; hpad : padK key = fillK key
    have HG := Lib.hid (show OwnB wA aK cK (n + 0) (key ++ List.replicate 0 0) wK from ⟨by simpa using hoK, hKK, hfK⟩)
    clear hoK hfK hKK
    go_wp2_with fail
    go_loopw [5] (fun v wr => ∃ (j : Nat) (a' : Option Addr) (c' : Nat), n + j ≤ 64 ∧ v = .slice a' (n + j) c' ∧ Hid (OwnB wA a' c' (n + j) (key ++ List.replicate j 0) wr)) (fun v _ => 64 - sliceLen v)
    case atStart => exact ⟨0, aK, cK, by omega, rfl, HG.out⟩
    case round =>
      obtain ⟨j, a', c', hj, rfl, hO⟩ := hrel
      clear HG
      by_cases hj64 : n + j < 64
      · have hfs := fill_succ key j
        have HFS := Lib.hid hfs
        have HO := hO.out
        clear hfs
        have hNJ : n + (j + 1) = n + j + 1 := by omega
        have HNJ := Lib.hid hNJ
        clear hNJ
        generalize hnj : n + j = NJ at *
        have HNN := Lib.hid hnj
        clear hnj
        have hjI : (NJ : Int) < 64 := by omega
        go_wp2_with (first | (refine wpList_bs rfl 27 5 1 _ rfl [.int .u8 (0)] Tryd.underlying27 Tryd.bs8 rfl (by decide) (by decide) rfl (by simp [Value.cells]) ?_) | (at_builtin; go_must (refine wpl_append rfl _ _ 27 rfl 5 1 1 Tryd.underlying27 Tryd.info8s (by omega) _ _ (NJ) _ rfl (HO.own.keep0 ((Keeps.refl _ _).alloc _)) _ 1 1 [.int .u8 (0)] rfl (Src.one (Blk.new _ _ _) rfl) (by unfold maxLen; omega) (by omega) ?_)))
        intro a2 c2 w2 o2 k2 f2 _
        have hn := HO.push ((Keeps.refl _ _).alloc _) o2 k2 (fun k hk => (f2 k hk).imp id (fun h => by omega))
        rw [HFS.out] at hn
        have HN := Lib.hid hn
        clear hn o2 k2 f2 HO
        go_wp2_with fail
        rw [← HNJ.out] at HN
        exact ⟨⟨j + 1, a2, c2, by have := HNJ.out; omega, by rw [HNJ.out], HN.out⟩, by simp only [sliceLen]; omega⟩
      · obtain rfl : j = 64 - n := by omega
        have hO2 := hO.out
        have e64 : n + (64 - n) = 64 := by omega
        rw [fill_full key (64 - n) (by omega), e64] at hO2
        have hFl : (fillK key).length = 64 := fillK_len _ (by omega)
        have hFb : AreB (fillK key) := areB_append hbK (areB_zeros _)
        have hrF := hO2.own.row (areB_wf hFb)
        obtain ⟨gf, ha', _, _⟩ := hO2.own.some (by omega)
        have HMM := Lib.hid (show macL key msg = digest (xorK (fillK key) 92 ++ digest (xorK (fillK key) 54 ++ msg)) by rw [macL_eq, hpad])
        have hbRF := hbR.keep0 hO2.keep
        have hKF := hO2.keep
        have hmF := hmA.keep hO2.keep
        rw [e64]
        subst ha'
        clear hO hO2 e64 hpad hj hj64 hbK hlK
        generalize fillK key = F at *
        generalize wr = wF at *
        have HI0 := Lib.hid (show OwnB wF none 0 0 (xorK (F.take 0) 54) wF ∧ OwnB wF none 0 0 (xorK (F.take 0) 92) wF ∧ (∀ k, blkOf (none : Option Addr) k → ¬ blkOf none k) from ⟨⟨by simpa [xorK, byteV] using Own.nil _ _ _, Keeps.refl _ _, fun k hk => (blkOf_none k hk).elim⟩, ⟨by simpa [xorK, byteV] using Own.nil _ _ _, Keeps.refl _ _, fun k hk => (blkOf_none k hk).elim⟩, fun k hk => (blkOf_none k hk).elim⟩)
        go_wp2_with fail
        go_loopw [7, 8, 9] (fun x y v wr => ∃ (i : Nat) (ai : Option Addr) (ci : Nat) (ao : Option Addr) (co : Nat), i ≤ 64 ∧ x = .slice ai i ci ∧ y = .slice ao i co ∧ v = .int .i64 i ∧ Hid (OwnB wF ai ci i (xorK (F.take i) 54) wr ∧ OwnB wF ao co i (xorK (F.take i) 92) wr ∧ (∀ k, blkOf ai k → ¬ blkOf ao k))) (fun _ _ v _ => 64 - (intOf v).toNat)
        case atStart => exact ⟨0, none, 0, none, 0, by omega, rfl, rfl, rfl, HI0.out⟩
        case round =>
          obtain ⟨i, ai, ci, ao, co, hi, rfl, rfl, rfl, hII⟩ := hrel
          clear HI0
          obtain ⟨hI, hO, hap⟩ := hII.out
          by_cases hi64 : i < 64
          · obtain ⟨gb, off, hgb, _, hcF⟩ := (hrF.keep hI.keep).cell (by omega)
            cases hgb
            have x1 := hcF i hi64
            rw [Nat.zero_add] at x1
            have hxs1 := xorK_take_succ F 54 i (by omega)
            have hxs2 := xorK_take_succ F 92 i (by omega)
            have HXS := Lib.hid (And.intro hxs1 hxs2)
            clear hxs1 hxs2 hcF
            generalize F.getD i 0 = y at *
            have hltO := hO.own.lt
            have HF := Lib.hid hrF
            go_wp2_with (first | (refine wpList_bs rfl 27 5 1 _ rfl [.int .u8 (bits .xor .u8 y 54)] Tryd.underlying27 Tryd.bs8 rfl (by decide) (by decide) rfl (by simp [Value.cells]) ?_) | (at_builtin; go_must (refine wpl_append rfl _ _ 27 rfl 5 1 1 Tryd.underlying27 Tryd.info8s (by omega) _ _ (i) _ rfl (hI.own.keep0 ((Keeps.refl _ _).alloc _)) _ 1 1 [.int .u8 (bits .xor .u8 y 54)] rfl (Src.one (Blk.new _ _ _) rfl) (by unfold maxLen; omega) (by omega) ?_)))
            intro a3 c3 w3 o3 k3 f3 _
            have f3 : ∀ k, blkOf a3 k → blkOf ai k ∨ wr.heap.size ≤ k := fun k hk => (f3 k hk).imp id (fun h => by omega)
            have hI3 := hI.push ((Keeps.refl _ _).alloc _) o3 k3 f3
            rw [HXS.out.1] at hI3
            have hO3 : OwnB wF ao co i (xorK (F.take i) 92) w3 := ⟨(hO.own.keep0 ((Keeps.refl _ _).alloc _)).keep k3 (fun k hk hs => hap k hs hk), hI3.keep, hO.fresh⟩
            have hap3 : ∀ k, blkOf a3 k → ¬ blkOf ao k := fun k hk hk' => by
              rcases f3 k hk with h | h
              · exact hap k h hk'
              · have := hltO k hk'; omega
            obtain ⟨gb, off, hgb, _, hcF⟩ := (HF.out.keep hI3.keep).cell (by omega)
            cases hgb
            have x3 := hcF i hi64
            rw [Nat.zero_add] at x3
            have hyy : F.getD i 0 = y := by
              have h0 := hcF i hi64
              obtain ⟨gb, off, hgb, _, hcG⟩ := (HF.out.keep hI.keep).cell (by omega)
              cases hgb
              have h1 := hcG i hi64
              rw [Nat.zero_add, x1] at h1
              injection h1 with h1
              injection h1 with _ h1
              exact h1.symm
            rw [hyy] at x3
            have hltI := hI3.own.lt
            clear hcF hyy o3 k3 f3 hI hO hap hltO x1 hII
            go_wp2_with (first | (refine wpList_bs rfl 27 5 1 _ rfl [.int .u8 (bits .xor .u8 y 92)] Tryd.underlying27 Tryd.bs8 rfl (by decide) (by decide) rfl (by simp [Value.cells]) ?_) | (at_builtin; go_must (refine wpl_append rfl _ _ 27 rfl 5 1 1 Tryd.underlying27 Tryd.info8s (by omega) _ _ (i) _ rfl (hO3.own.keep0 ((Keeps.refl _ _).alloc _)) _ 1 1 [.int .u8 (bits .xor .u8 y 92)] rfl (Src.one (Blk.new _ _ _) rfl) (by unfold maxLen; omega) (by omega) ?_)))
            intro a4 c4 w4 o4 k4 f4 _
            have f4 : ∀ k, blkOf a4 k → blkOf ao k ∨ w3.heap.size ≤ k := fun k hk => (f4 k hk).imp id (fun h => by omega)
            have hO4 := hO3.push ((Keeps.refl _ _).alloc _) o4 k4 f4
            rw [HXS.out.2] at hO4
            have hI4 : OwnB wF a3 c3 (i + 1) (xorK (F.take (i + 1)) 54) w4 := ⟨(hI3.own.keep0 ((Keeps.refl _ _).alloc _)).keep k4 (fun k hk hs => hap3 k hk hs), hO4.keep, hI3.fresh⟩
            have hap4 : ∀ k, blkOf a3 k → ¬ blkOf a4 k := fun k hk hk' => by
              rcases f4 k hk' with h | h
              · exact hap3 k hk h
              · have := hltI k hk; omega
            have HN := Lib.hid (And.intro hI4 (And.intro hO4 hap4))
            clear o4 k4 f4 hI3 hO3 hap3 hltI x3 hI4 hO4 hap4 HXS
            go_wp2_with fail
            exact ⟨⟨i + 1, a3, c3, a4, c4, by omega, rfl, rfl, by go_num, HN.out⟩, by simp [intOf]; omega⟩
          · obtain rfl : i = 64 := by omega
            rw [List.take_of_length_le (by omega)] at hI hO
            have hxI := xorK_bytes F 54
            have hlI : (xorK F 54).length = 64 := by rw [xorK_len, hFl]
            have hxO := xorK_bytes F 92
            have hlO : (xorK F 92).length = 64 := by rw [xorK_len, hFl]
            generalize xorK F 54 = IN at *
            generalize xorK F 92 = OU at *
            have hbRr := hbRF.keep0 hI.keep
            have hmr := (hmF.keep hI.keep).src hnm (cap := cm)
            have hmb := hmA.bytes
            have hml2 := hmA.llen
            have hKr := hKF.trans hI.keep
            have hlto := hO.own.lt
            clear hII hrF hmF hmA hbRF
            go_wp2_with (at_builtin; refine wpl_append rfl _ _ 27 rfl 5 1 1 Tryd.underlying27 Tryd.info8s (by omega) ai ci 64 _ rfl hI.own _ m cm (msg.map (Value.int .u8)) rfl hmr (by unfold maxLen; omega) (by omega) ?_)
            intro a5 c5 w5 o5 k5 f5 _
            have hO5 := hO.own.keep k5 (fun k hk hs => hap k hs hk)
            have hKA5 : Keeps Nil wA w5 := hKr.step k5 (fun i hi => .inr (Nat.le_trans hKF.size (hI.fresh i hi)))
            have hb5 : AreB (IN ++ msg) := areB_append hxI hmb
            have hr5 : Row .u8 w5 a5 (64 + m) (IN ++ msg) := by
              have := o5
              rw [show byteV IN ++ msg.map (Value.int .u8) = byteV (IN ++ msg) by simp [byteV]] at this
              exact this.row (areB_wf hb5)
            have HS := Lib.hid (refSum_walk (cap := c5) hr5 (by omega))
            have hfO := hO.fresh
            have hlt5 := hO5.lt
            clear hI hO hap hmr o5 k5 f5 hr5 hKr hbRr
            go_wp2_with fail
            refine HS.out.mono ?_
            rintro e w6 ⟨rfl, hk6⟩
            have hO6 := hO5.keep0 hk6
            have hKA6 := hKA5.trans hk6
            have hb := Blk.new w6 Z 36
            have hka := (Keeps.refl Nil w6).alloc (.cells Z.toArray 36)
            have hdl := digest_len (IN ++ msg)
            have hdb := digest_bytes (IN ++ msg)
            have hdv : (byteV (digest (IN ++ msg))).length = 32 := by rw [byteV_len, hdl]
            generalize digest (IN ++ msg) = D6 at *
            clear HS hO5 hKA5 hk6
            go_wp2_with (refine wpl_store rfl 36 _ _ rfl w6.heap.size rfl (byteV D6) rfl hb (by rw [hdv, HZ32.out]) (by rw [hdv]; exact Tryd.infoH) (byteV_one _) ?_)
            intro w7 hb7 hk7 hs7
            clear hs7
            have hk67 : Keeps Nil w6 w7 := hka.step hk7 (fun i hi => .inr (by rw [show i = w6.heap.size from hi]; exact Nat.le_refl _))
            have hO7 := hO6.keep0 hk67
            have hKA7 := hKA6.trans hk67
            have hr7 := (hb7.row8 hdb hdl (by omega)).src (cap := 32) (fun h => by cases h)
            clear hb hka hk7 hk67 hO6 hKA6 hb7
            generalize w6.heap.size = g6 at *
            go_wp2_with (at_builtin; refine wpl_append rfl _ _ 27 rfl 5 1 1 Tryd.underlying27 Tryd.info8s (by omega) ao co 64 _ rfl hO7 _ 32 32 (D6.map (Value.int .u8)) rfl hr7 (by unfold maxLen; omega) (by omega) ?_)
            intro a8 c8 w8 o8 k8 f8 _
            have hKA8 : Keeps Nil wA w8 := hKA7.step k8 (fun i hi => .inr (Nat.le_trans hKF.size (hfO i hi)))
            have hb8 : AreB (OU ++ D6) := areB_append hxO hdb
            have hr8 : Row .u8 w8 a8 (64 + 32) (OU ++ D6) := by
              have := o8
              rw [show byteV OU ++ D6.map (Value.int .u8) = byteV (OU ++ D6) by simp [byteV]] at this
              exact this.row (areB_wf hb8)
            have HS := Lib.hid (refSum_walk (cap := c8) hr8 (by omega))
            clear o8 k8 f8 hr8 hO7 hKA7 hr7
            go_wp2_with fail
            refine HS.out.mono ?_
            rintro e w9 ⟨rfl, hk9⟩
            have hKA9 := hKA8.trans hk9
            have hbR9 := hbR.keep0 hKA9
            have hRl : (byteV (digest (OU ++ D6))).length = 32 := by rw [byteV_len, digest_len]
            have hRo := byteV_one (digest (OU ++ D6))
            have hmm := HMM.out
            generalize digest (OU ++ D6) = R at *
            clear HS hKA8 hk9
            go_wp2_with (refine wpl_store rfl 36 _ _ rfl w.heap.size rfl (byteV R) rfl hbR9 (by rw [hRl, HZ32.out]) (by rw [hRl]; exact Tryd.infoH) hRo ?_)
            intro w10 hb10 hk10 _
            go_wp2_with fail
            refine ret_blk Tryd.results19 w.heap.size rfl hb10 _ Tryd.undH rfl (by rw [hRl]; exact Tryd.infoH) rfl ⟨by rw [hmm], (hkA.trans hKA9).step hk10 (fun i hi => .inr (by rw [show i = w.heap.size from hi]; exact Nat.le_refl _))⟩
end Go.Proofs.YtnkahfpinkgimaaDoor
