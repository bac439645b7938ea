/-
  Bytes copied and compared: slices.Clone at bytes, courierref.Bytes, courierref.SameBytes.
-/
import Derived.Test.YtkefbgkdkmkghaaDoorProg
import Derived.Test.YtkefbgkdkmkghaaDoorOwn
namespace Go.Proofs.YtkefbgkdkmkghaaDoor
set_option linter.unusedSimpArgs false
set_option linter.unusedVariables false
open Go.RowKit

theorem Tryd.info8 : (Tryd.prog.info? 5).map (fun i => (i.zero, i.size, i.bytes)) = some (some (.int .u8 0), 1, 1) := by kernel_rfl
theorem Tryd.info8s : (Tryd.prog.info? 5).map (fun i => (i.zero.map (·.cells.size), i.size, i.bytes)) = some (some 1, 1, 1) := by kernel_rfl

/-- A slice of bytes of the program's own, new since a world w. -/
def FreshB (w w' : World) (l : List Int) (e : Ending) : Prop :=
  ∃ a cap, e = .returned (.slice a l.length cap) ∧ Own w' 5 1 a cap l.length (byteV l) ∧ Keeps Nil w w' ∧ (∀ k, blkOf a k → w.heap.size ≤ k)

set_option maxHeartbeats 400000 in
theorem cloneB_walk {w : World} {a : Option Addr} {len cap : Nat} {l : List Int} (h : Row .u8 w a len l) (hc : a = none → cap = 0 ∧ len = 0) (hb : len ≤ 140737488351232) :
    Calls Tryd.prog 47 #[.slice a len cap] w fun e w' => FreshB w w' l e := by
  have hl := h.llen
  cases a with
  | none =>
    obtain ⟨rfl, rfl⟩ := hc rfl
    have hn := fun w => Lib.run_eql_slice_nil (P := Tryd.prog) w 25 5 none 0 0 0 0 Tryd.underlying25
    go_enter Tryd.func47, Tryd.ntmps47
    go_wp2
    go_ret
    have : l = [] := List.eq_nil_of_length_eq_zero hl
    subst this
    exact ⟨none, 0, rfl, Own.nil _ _ _, Keeps.refl _ _, fun k hk => (blkOf_none k hk).elim⟩
  | some ad =>
    have hn := fun w => Lib.run_eql_slice_nil (P := Tryd.prog) w 25 5 (some ad) len cap 0 0 Tryd.underlying25
    have HS := Lib.hid (fun w' (hk : Keeps Nil w w') => (h.keep hk).src hc)
    clear h hc
    go_enter Tryd.func47, Tryd.ntmps47
    go_wp2_with (refine wpl_bs0 rfl 25 5 rfl Tryd.underlying25 (by kernel_rfl) 1 ?_)
    intro w1 hown1 hk1
    go_wp2_with (at_builtin; refine wpl_append rfl _ _ 25 rfl 5 1 1 Tryd.underlying25 Tryd.info8s (by omega) _ 0 0 [] rfl hown1 _ len cap (byteV l) rfl (HS.out w1 hk1) (by unfold maxLen; omega) (by omega) ?_)
    intro a' cap' w2 hown2 hk2 hf2 _
    go_wp2
    go_ret
    refine ⟨a', cap', by rw [hl]; rfl, ?_, ?_, ?_⟩
    · rw [hl]; exact hown2
    · exact hk1.step hk2 (fun i hi => .inr (by rw [(blkOf_some _ _ _ _).1 hi]; exact Nat.le_refl _))
    · intro k hk
      rcases hf2 k hk with h' | h'
      · rw [(blkOf_some _ _ _ _).1 h']; exact Nat.le_refl _
      · rw [h']; exact hk1.size

theorem Tryd.bs8 : (Tryd.prog.info? 5).map (fun i => (i.size, i.zero.isSome)) = some (1, true) := by kernel_rfl

set_option maxHeartbeats 800000 in
theorem refBytes_walk {w : World} {a : Option Addr} {len cap : Nat} {l : List Int} (h : Row .u8 w a len l) (hb : len ≤ 140737488351232) :
    Calls Tryd.prog 23 #[.slice a len cap] w fun e w' => FreshB w w' l e := by
  have hl := h.llen
  go_enter Tryd.func23, Tryd.ntmps23
  go_wp2_with (at_make; refine wpl_make rfl _ _ 25 rfl 5 (.int .u8 0) 1 Tryd.underlying25 Tryd.info8 rfl .i64 .i64 0 len _ _ rfl rfl rfl rfl (by omega) (by omega) (by unfold maxLen; omega) ?_)
  intro w1 hown1 _ hk1
  go_wp2
  go_loopw [3, 4] (fun v i wr => ∃ (j : Nat) (a' : Option Addr) (cap' : Nat), j ≤ len ∧ i = .int .i64 j ∧ v = .slice a' j cap' ∧ Hid (Own wr 5 1 a' cap' j (byteV (l.take j))) ∧ Hid (Keeps Nil w wr) ∧ Hid (∀ k, blkOf a' k → w.heap.size ≤ k)) (fun _ i _ => len - (intOf i).toNat)
  case atStart => exact ⟨0, _, _, Nat.zero_le _, rfl, rfl, hown1, hk1, fun k hk => by rw [(blkOf_some _ _ _ _).1 hk]; exact Nat.le_refl _⟩
  case round =>
    obtain ⟨j, a', cap', hj, rfl, rfl, hown, hkr, hfr⟩ := hrel
    clear hown1
    by_cases hlt : j < len
    · obtain ⟨bb, off, rfl, hbb, hc⟩ := h.cell (by omega)
      have hcell := hkr.out.cell (hc j hlt) (fun h => h)
      have hs : byteV (l.take (j + 1)) = byteV (l.take j) ++ [.int .u8 (l.getD j 0)] := by
        unfold byteV
        rw [List.take_succ_eq_append_getElem (by omega)]
        simp only [List.map_append, List.map_cons, List.map_nil]
        simp [List.getD, show j < l.length by omega]
      have HS := Lib.hid hs
      clear hc hs
      generalize l.getD j 0 = x at *
      go_wp2_with (first | (refine wpList_bs rfl 25 5 1 _ rfl [.int .u8 x] Tryd.underlying25 Tryd.bs8 rfl (by decide) (by decide) rfl (by simp [Value.cells]) ?_) | (at_builtin; go_must (refine wpl_append rfl _ _ 25 rfl 5 1 1 Tryd.underlying25 Tryd.info8s (by omega) _ _ j _ rfl (hown.out.keep0 ((Keeps.refl _ _).alloc _)) _ 1 1 [.int .u8 x] rfl (Src.one (Blk.new _ _ _) rfl) (by unfold maxLen; omega) (by omega) ?_)))
      intro a2 cap2 w2 hown2 hk2 hf2 _
      go_wp2
      go_roundw
      case rel =>
        refine ⟨j + 1, a2, cap2, by omega, by go_num, rfl, ?_, ?_, ?_⟩
        · rw [HS.out]; exact hown2
        · exact (hkr.out.alloc _).step hk2 (fun i hi => .inr (hfr.out i hi))
        · intro k hk
          rcases hf2 k hk with h' | h'
          · exact hfr.out k h'
          · rw [h']; have := hkr.out.size; simp; omega
      case measure => simp [intOf]; omega
    · obtain rfl : j = len := by omega
      go_wp2
      go_ret
      refine ⟨a', cap', by rw [hl]; rfl, ?_, hkr.out, hfr.out⟩
      have := hown.out
      rw [List.take_of_length_le (by omega)] at this
      rw [hl]; exact this

/-- Are two lists of bytes the same? -/
def sameL (a b : List Int) : Bool := a == b

set_option maxHeartbeats 800000 in
theorem sameBytes_walk {w : World} {a b : Option Addr} {n m ca cb : Nat} {l r : List Int} (ha : Row .u8 w a n l) (hb : Row .u8 w b m r) :
    Calls Tryd.prog 19 #[.slice a n ca, .slice b m cb] w fun e w' => e = .returned (.bool (sameL l r)) ∧ Drawn w w' := by
  have hl := ha.llen
  have hr := hb.llen
  have hma := ha.most
  by_cases hne : n = m
  · subst hne
    go_enter Tryd.func19, Tryd.ntmps19
    go_wp2
    go_loopw [5] (fun i wr => ∃ (j q : Nat), j ≤ n ∧ i = .int .i64 j ∧ wr = w.drewN q ∧ Hid (l.take j = r.take j)) (fun i _ => n - (intOf i).toNat)
    case atStart => exact ⟨0, 0, Nat.zero_le _, rfl, rfl, rfl⟩
    case round =>
      obtain ⟨j, q, hj, rfl, rfl, heq⟩ := hrel
      by_cases hlt : j < n
      · obtain ⟨b1, o1, rfl, hb1, hc1⟩ := ha.cell (by omega)
        obtain ⟨b2, o2, rfl, hb2, hc2⟩ := hb.cell (by omega)
        have c1 := hc1 j hlt
        have c2 := hc2 j hlt
        clear hc1 hc2
        have hx : l.getD j 0 = l[j]'(by omega) := by simp [List.getD, show j < l.length by omega]
        have hy : r.getD j 0 = r[j]'(by omega) := by simp [List.getD, show j < r.length by omega]
        by_cases e : l.getD j 0 = r.getD j 0
        · have hnx : l.take (j + 1) = r.take (j + 1) := by
            rw [List.take_succ_eq_append_getElem (by omega), List.take_succ_eq_append_getElem (by omega), heq.out, ← hx, ← hy, e]
          have HN := Lib.hid hnx
          clear hnx hx hy
          rw [e] at c1
          generalize r.getD j 0 = y at *
          clear e
          have hyy : (y == y) = true := by simp
          go_wp2
          go_quiet (fail)
          go_wp2
          go_roundw
          case rel => exact ⟨j + 1, _, by omega, by go_num, rfl, HN.out⟩
          case measure => simp [intOf]; omega
        · have hf : sameL l r = false := by
            unfold sameL
            rw [beq_eq_false_iff_ne]
            intro h
            exact e (by rw [h])
          have HF := Lib.hid hf
          have he : (l.getD j 0 == r.getD j 0) = false := by rw [beq_eq_false_iff_ne]; exact e
          clear hf hx hy e
          generalize l.getD j 0 = x at *
          generalize r.getD j 0 = y at *
          go_wp2
          go_quiet (fail)
          go_wp2
          go_ret
          exact ⟨by rw [HF.out]; rfl, _, rfl⟩
      · obtain rfl : j = n := by omega
        have hf : sameL l r = true := by
          unfold sameL
          have := heq.out
          rw [List.take_of_length_le (by omega), List.take_of_length_le (by omega)] at this
          simp [this]
        have HF := Lib.hid hf
        clear hf
        go_wp2
        go_ret
        exact ⟨by rw [HF.out]; rfl, _, rfl⟩
  · have hf : sameL l r = false := by
      unfold sameL
      rw [beq_eq_false_iff_ne]
      intro h
      exact hne (by rw [← hl, ← hr, h])
    have HF := Lib.hid hf
    have he : ((n : Int) != (m : Int)) = true := by rw [bne_iff_ne]; omega
    clear hf
    go_enter Tryd.func19, Tryd.ntmps19
    go_wp2
    go_ret
    exact ⟨by rw [HF.out]; rfl, 0, rfl⟩
end Go.Proofs.YtkefbgkdkmkghaaDoor
