/-
  Slots: the law's bytes.
-/
import Derived.Test.YtkefbgkdkmkghaaDoorSlotsBack
namespace Go.Proofs.YtkefbgkdkmkghaaDoor
set_option linter.unusedSimpArgs false
set_option linter.unusedVariables false
open Go.RowKit

def fileB (n : Int) (i : Nat) : Int := (n + i * 7 + i / 13) % 256
def fileL (n : Int) (k : Nat) : List Int := (List.range k).map (fileB n)
theorem fileL_len (n : Int) (k : Nat) : (fileL n k).length = k := by simp [fileL]
theorem fileL_bytes (n : Int) (k : Nat) : AreB (fileL n k) := fun x hx => by
  obtain ⟨i, _, rfl⟩ := List.mem_map.1 hx
  unfold fileB
  omega
theorem fileL_succ (n : Int) (k : Nat) : fileL n (k + 1) = fileL n k ++ [fileB n k] := by
  unfold fileL
  rw [List.range_succ, List.map_append]
  rfl
set_option maxHeartbeats 1600000 in
theorem file_walk (n : Int) (k : Nat) (w : World) (hk : k ≤ 100000) :
    Calls Tryd.prog 40 #[.int .i64 n, .int .i64 k] w fun e w' => FreshB w w' (fileL n k) e := by
  go_enter Tryd.func40, Tryd.ntmps40
  go_wp2_with fail
  go_loopw [5, 6] (fun v i wr => ∃ (j : Nat) (a' : Option Addr) (cap' : Nat), j ≤ k ∧ i = .int .i64 j ∧ v = .slice a' j cap' ∧ Hid (Own wr 5 1 a' cap' j (byteV (fileL n j))) ∧ Hid (Keeps Nil w wr) ∧ Hid (∀ k, blkOf a' k → w.heap.size ≤ k)) (fun _ i _ => k - (intOf i).toNat)
  case atStart => exact ⟨0, _, _, Nat.zero_le _, rfl, rfl, Lib.hid (Own.nil _ _ _), Lib.hid (Keeps.refl _ _), Lib.hid (fun k hk => absurd hk (blkOf_none k))⟩
  case round =>
    obtain ⟨j, a', cap', hj, rfl, rfl, hown, hkr, hfr⟩ := hrel
    by_cases hlt : j < k
    · have hji : (j : Int) < k := by omega
      have hS : byteV (fileL n (j + 1)) = byteV (fileL n j) ++ [.int .u8 (fileB n j)] := by rw [fileL_succ]; unfold byteV; rw [List.map_append]; rfl
      have HS := Lib.hid hS
      have hx : wrap64 (wrap64 (n + (j : Int) * 7) + (j : Int) / 13) % 256 = fileB n j := by unfold wrap64 fileB; omega
      have HX := Lib.hid hx
      clear hS hx
      go_wp2_with (first | (refine wpList_bs rfl 25 5 1 _ rfl [.int .u8 (wrap64 (wrap64 (n + (j : Int) * 7) + (j : Int) / 13) % 256)] Tryd.underlying25 Tryd.bs8 rfl (by decide) (by decide) rfl (by simp [Value.cells]) ?_) | (at_builtin; go_must (refine wpl_append rfl _ _ 25 rfl 5 1 1 Tryd.underlying25 Tryd.info8s (by omega) _ _ j _ rfl (hown.out.keep0 ((Keeps.refl _ _).alloc _)) _ 1 1 [.int .u8 (wrap64 (wrap64 (n + (j : Int) * 7) + (j : Int) / 13) % 256)] rfl (Src.one (Blk.new _ _ _) rfl) (by unfold maxLen; omega) (by omega) ?_)))
      intro a2 cap2 w2 hown2 hk2 hf2 _
      rw [HX.out, ← HS.out] at hown2
      have HO2 := Lib.hid hown2
      have HK2 := Lib.hid ((hkr.out.alloc _).step hk2 (fun i hi => .inr (hfr.out i hi)))
      have HF2 := Lib.hid (show ∀ k, blkOf a2 k → w.heap.size ≤ k from fun k hk => by
          rcases hf2 k hk with h' | h'
          · exact hfr.out k h'
          · rw [h']; have := hkr.out.size; simp; omega)
      clear hown2 hk2 hf2
      go_wp2_with fail
      go_roundw
      case rel => exact ⟨j + 1, a2, cap2, by omega, by go_num, rfl, HO2, HK2, HF2⟩
      case measure => first | (simp [intOf]; done) | (simp [intOf]; omega)
    · obtain rfl : j = k := by omega
      have hji : ¬ (j : Int) < j := by omega
      have HJ := Lib.hid (fileL_len n j)
      go_wp2_with fail
      go_ret
      exact ⟨a', cap', by rw [HJ.out]; rfl, by rw [HJ.out]; exact hown.out, hkr.out, hfr.out⟩
end Go.Proofs.YtkefbgkdkmkghaaDoor
