/-
  mac.Equal; chapter 4's first examples.
-/
import Derived.Test.YtnkahfpinkgimaaDoorMacDerive
import Derived.Test.YtnkahfpinkgimaaDoorNumber
import Derived.Laws.BitsAllLaws
namespace Go.Proofs.YtnkahfpinkgimaaDoor
set_option linter.unusedSimpArgs false
set_option linter.unusedVariables false
open Go.RowKit

theorem orx_zero {d x y : Int} (hd : 0 ≤ d ∧ d < 256) (hx : 0 ≤ x ∧ x < 256) (hy : 0 ≤ y ∧ y < 256) : bits .or .u8 d (bits .xor .u8 x y) = 0 ↔ d = 0 ∧ x = y := by
  have hb := bits_u8 .xor x y
  rw [u8_or _ _ hd.1 hd.2 hb.1 hb.2]
  have h1 : bits .xor .u8 x y = 0 ↔ x = y := by
    rw [u8_xor _ _ hx.1 hx.2 hy.1 hy.2]
    have : x.toNat ^^^ y.toNat = 0 ↔ x.toNat = y.toNat := by
      constructor
      · intro h
        apply Nat.eq_of_testBit_eq
        intro i
        have h2 := congrArg (fun z => Nat.testBit z i) h
        simpa [Nat.testBit_xor] using h2
      · intro h
        rw [h, Nat.xor_self]
    constructor
    · intro h
      have := this.1 (by omega)
      omega
    · intro h
      have := this.2 (by rw [h])
      omega
  rw [← h1]
  have : d.toNat ||| (bits .xor .u8 x y).toNat = 0 ↔ d.toNat = 0 ∧ (bits .xor .u8 x y).toNat = 0 := Nat.or_eq_zero_iff
  constructor
  · intro h
    have := this.1 (by omega)
    omega
  · intro h
    have := this.2 (by omega)
    omega

set_option maxHeartbeats 1600000 in
theorem equal_walk {w : World} {a b : Option Addr} {n m ca cb : Nat} {l r : List Int} (ha : Row .u8 w a n l) (hb : Row .u8 w b m r) :
    Calls Tryd.prog 23 #[.slice a n ca, .slice b m cb] w fun e w' => e = .returned (.bool (sameL l r)) ∧ Drawn w w' := by
  have hl := ha.llen
  have hr := hb.llen
  have hma := ha.most
  by_cases hne : n = m
  · subst hne
    go_enter Tryd.func23, Tryd.ntmps23
    go_wp2
    go_loopw [5, 14] (fun d i wr => ∃ (j q : Nat) (D : Int), j ≤ n ∧ d = .int .u8 D ∧ i = .int .i64 j ∧ wr = w.drewN q ∧ Hid ((0 ≤ D ∧ D < 256) ∧ (D = 0 ↔ l.take j = r.take j))) (fun _ i _ => n - (intOf i).toNat)
    case atStart => exact ⟨0, 0, 0, Nat.zero_le _, rfl, rfl, rfl, by omega, by simp⟩
    case round =>
      obtain ⟨j, q, D, hj, rfl, rfl, rfl, hD⟩ := hrel
      by_cases hlt : j < n
      · obtain ⟨b1, o1, rfl, hb1, hc1⟩ := ha.cell (by omega)
        obtain ⟨b2, o2, rfl, hb2, hc2⟩ := hb.cell (by omega)
        have c1 := hc1 j hlt
        have c2 := hc2 j hlt
        have hx0 := u8_wf (ha.wf _ (ha.at_ hlt))
        have hy0 := u8_wf (hb.wf _ (hb.at_ hlt))
        have hx : l.getD j 0 = l[j]'(by omega) := by simp [List.getD, show j < l.length by omega]
        have hy : r.getD j 0 = r[j]'(by omega) := by simp [List.getD, show j < r.length by omega]
        have hnx : (0 ≤ bits .or .u8 D (bits .xor .u8 (l.getD j 0) (r.getD j 0)) ∧ bits .or .u8 D (bits .xor .u8 (l.getD j 0) (r.getD j 0)) < 256) ∧ (bits .or .u8 D (bits .xor .u8 (l.getD j 0) (r.getD j 0)) = 0 ↔ l.take (j + 1) = r.take (j + 1)) := by
          refine ⟨bits_u8 _ _ _, ?_⟩
          rw [orx_zero hD.out.1 (by omega) (by omega), hD.out.2, List.take_succ_eq_append_getElem (by omega), List.take_succ_eq_append_getElem (by omega), hx, hy]
          constructor
          · intro h; rw [h.1, h.2]
          · intro h
            have := List.append_inj h (by simp; omega)
            simpa using this
        have HN := Lib.hid hnx
        clear hnx hx hy hc1 hc2 hD hx0 hy0
        generalize l.getD j 0 = x at *
        generalize r.getD j 0 = y at *
        go_wp2
        go_quiet (fail)
        go_wp2
        go_roundw
        case rel => exact ⟨j + 1, _, _, by omega, rfl, by go_num, rfl, HN.out⟩
        case measure => simp [intOf]; omega
      · obtain rfl : j = n := by omega
        have hf : sameL l r = (D == 0) := by
          have h2 := hD.out.2
          rw [List.take_of_length_le (by omega), List.take_of_length_le (by omega)] at h2
          unfold sameL
          rw [Bool.eq_iff_iff, beq_iff_eq, beq_iff_eq]
          exact h2.symm
        have HF := Lib.hid hf
        clear hf hD
        go_wp2
        go_ret
        exact ⟨by rw [HF.out]; rfl, _, rfl⟩
  · have hf : sameL l r = false := by
      unfold sameL
      rw [beq_eq_false_iff_ne]
      intro h
      exact hne (by rw [← hl, ← hr, h])
    have HF := Lib.hid hf
    have he : ((n : Int) != (m : Int)) = true := by rw [bne_iff_ne]; omega
    clear hf
    go_enter Tryd.func23, Tryd.ntmps23
    go_wp2
    go_ret
    exact ⟨by rw [HF.out]; rfl, 0, rfl⟩

set_option maxRecDepth 20000 in
set_option maxHeartbeats 1600000 in
theorem macfirst_walk (w : World) : Calls Tryd.prog 15 #[] w (TrueS w) := by
  go_enter Tryd.func15, Tryd.ntmps15
  go_wp2_with fail
  refine (derive_walk (n := 5) (PieceOk.none w) (PieceOk.none w) (PieceOk.none w) (by omega) (by omega) (by omega) (by omega)).mono ?_
  rintro e w1 ⟨a1, c1, rfl, ho1, hk1, hf1⟩
  rw [deriveL_len]
  have HE := Lib.hid (fun w => @equal_walk w none none 0 0 0 0 [] [] (row_none w) (row_none w))
  go_wp2_with fail
  refine (HE.out w1).mono ?_
  rintro e w2 ⟨rfl, hd2⟩
  have hk2 := hk1.trans (hd2.keeps Nil)
  rw [show sameL ([] : List Int) [] = true from rfl]
  have hq1 := (Keeps.refl Nil w2).alloc (.cells [Value.int .u8 1].toArray 5)
  have hn1 := Blk.new w2 [Value.int .u8 1] 5
  have hs1 : (w2.alloc (.cells [Value.int .u8 1].toArray 5)).heap.size = w2.heap.size + 1 := size_alloc' _ _
  generalize hwx : w2.alloc (.cells [Value.int .u8 1].toArray 5) = wx at *
  have hq2 := (Keeps.refl Nil wx).alloc (.cells [Value.int .u8 2].toArray 5)
  have hn2 := Blk.new' wx [Value.int .u8 2] 5 hs1.symm
  have HE2 := Lib.hid (equal_walk (ca := 1) (cb := 1) (Blk.row8 (T := 5) (l := [1]) (n := 1) (hn1.keep0 hq2) (fun x hx => by rw [List.mem_singleton.1 hx]; decide) rfl (by omega)) (Blk.row8 (T := 5) (l := [2]) (n := 1) hn2 (fun x hx => by rw [List.mem_singleton.1 hx]; decide) rfl (by omega)))
  rw [← hwx] at HE2 hq2 hq1
  clear hn1 hn2 hs1 hwx
  go_wp2_with fail
  refine HE2.out.mono ?_
  rintro e w3 ⟨rfl, hd3⟩
  rw [show sameL ([1] : List Int) [2] = false from rfl]
  go_wp2_with fail
  go_ret
  exact ⟨by first | rfl | simp, (hk2.trans (hq1.trans hq2)).trans (hd3.keeps Nil)⟩
end Go.Proofs.YtnkahfpinkgimaaDoor
