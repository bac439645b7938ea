/-
  Bytes copied and compared: slices.Clone at bytes, courierref.Bytes, courierref.SameBytes.
-/
import Derived.Test.YtmbdldnldcgdjaaDoorProg
import Derived.Test.YtmbdldnldcgdjaaDoorOwn
namespace Go.Proofs.YtmbdldnldcgdjaaDoor
set_option linter.unusedSimpArgs false
set_option linter.unusedVariables false
open Go.RowKit

theorem Tryd.info8 : (Tryd.prog.info? 5).map (fun i => (i.zero, i.size, i.bytes)) = some (some (.int .u8 0), 1, 1) := by kernel_rfl
theorem Tryd.info8s : (Tryd.prog.info? 5).map (fun i => (i.zero.map (·.cells.size), i.size, i.bytes)) = some (some 1, 1, 1) := by kernel_rfl

/-- A slice of bytes of the program's own, new since a world w. -/
def FreshB (w w' : World) (l : List Int) (e : Ending) : Prop :=
  ∃ a cap, e = .returned (.slice a l.length cap) ∧ Own w' 5 1 a cap l.length (byteV l) ∧ Keeps Nil w w' ∧ (∀ k, blkOf a k → w.heap.size ≤ k)

theorem Tryd.bs8 : (Tryd.prog.info? 5).map (fun i => (i.size, i.zero.isSome)) = some (1, true) := by kernel_rfl

set_option maxHeartbeats 800000 in
theorem refBytes_walk {w : World} {a : Option Addr} {len cap : Nat} {l : List Int} (h : Row .u8 w a len l) (hb : len ≤ 140737488351232) :
    Calls Tryd.prog 31 #[.slice a len cap] w fun e w' => FreshB w w' l e := by
  have hl := h.llen
  go_enter Tryd.func31, Tryd.ntmps31
  go_wp2_with (at_make; refine wpl_make rfl _ _ 65 rfl 5 (.int .u8 0) 1 Tryd.underlying65 Tryd.info8 rfl .i64 .i64 0 len _ _ rfl rfl rfl rfl (by omega) (by omega) (by unfold maxLen; omega) ?_)
  intro w1 hown1 _ hk1
  go_wp2
  go_loopw [3, 4] (fun v i wr => ∃ (j : Nat) (a' : Option Addr) (cap' : Nat), j ≤ len ∧ i = .int .i64 j ∧ v = .slice a' j cap' ∧ Hid (Own wr 5 1 a' cap' j (byteV (l.take j))) ∧ Hid (Keeps Nil w wr) ∧ Hid (∀ k, blkOf a' k → w.heap.size ≤ k)) (fun _ i _ => len - (intOf i).toNat)
  case atStart => exact ⟨0, _, _, Nat.zero_le _, rfl, rfl, hown1, hk1, fun k hk => by rw [(blkOf_some _ _ _ _).1 hk]; exact Nat.le_refl _⟩
  case round =>
    obtain ⟨j, a', cap', hj, rfl, rfl, hown, hkr, hfr⟩ := hrel
    clear hown1
    by_cases hlt : j < len
    · obtain ⟨bb, off, rfl, hbb, hc⟩ := h.cell (by omega)
      have hcell := hkr.out.cell (hc j hlt) (fun h => h)
      have hs : byteV (l.take (j + 1)) = byteV (l.take j) ++ [.int .u8 (l.getD j 0)] := by
        unfold byteV
        rw [List.take_succ_eq_append_getElem (by omega)]
        simp only [List.map_append, List.map_cons, List.map_nil]
        simp [List.getD, show j < l.length by omega]
      have HS := Lib.hid hs
      clear hc hs
      generalize l.getD j 0 = x at *
      go_wp2_with (first | (refine wpList_bs rfl 65 5 1 _ rfl [.int .u8 x] Tryd.underlying65 Tryd.bs8 rfl (by decide) (by decide) rfl (by simp [Value.cells]) ?_) | (at_builtin; go_must (refine wpl_append rfl _ _ 65 rfl 5 1 1 Tryd.underlying65 Tryd.info8s (by omega) _ _ j _ rfl (hown.out.keep0 ((Keeps.refl _ _).alloc _)) _ 1 1 [.int .u8 x] rfl (Src.one (Blk.new _ _ _) rfl) (by unfold maxLen; omega) (by omega) ?_)))
      intro a2 cap2 w2 hown2 hk2 hf2 _
      go_wp2
      go_roundw
      case rel =>
        refine ⟨j + 1, a2, cap2, by omega, by go_num, rfl, ?_, ?_, ?_⟩
        · rw [HS.out]; exact hown2
        · exact (hkr.out.alloc _).step hk2 (fun i hi => .inr (hfr.out i hi))
        · intro k hk
          rcases hf2 k hk with h' | h'
          · exact hfr.out k h'
          · rw [h']; have := hkr.out.size; simp; omega
      case measure => simp [intOf]; omega
    · obtain rfl : j = len := by omega
      go_wp2
      go_ret
      refine ⟨a', cap', by rw [hl]; rfl, ?_, hkr.out, hfr.out⟩
      have := hown.out
      rw [List.take_of_length_le (by omega)] at this
      rw [hl]; exact this

/-- Are two lists of bytes the same? -/
def sameL (a b : List Int) : Bool := a == b

end Go.Proofs.YtmbdldnldcgdjaaDoor
