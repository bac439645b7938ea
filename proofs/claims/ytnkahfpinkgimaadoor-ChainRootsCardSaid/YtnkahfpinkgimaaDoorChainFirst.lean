/-
  Chapter 12's first examples; what the laws of the chapter have in common.
-/
import Derived.Test.YtnkahfpinkgimaaDoorChainNums
namespace Go.Proofs.YtnkahfpinkgimaaDoor
set_option linter.unusedSimpArgs false
set_option linter.unusedVariables false
open Go.RowKit

theorem key32_z : Key32 z32 := ⟨z32_len, areB_zeros 32⟩
theorem rootA_key (r s : List Int) : Key32 (rootA r s) := ⟨by unfold rootA; rw [List.length_take, deriveL_len]; rfl, fun x hx => deriveL_bytes _ _ _ _ x (List.mem_of_mem_take hx)⟩
theorem rootB_key (r s : List Int) : Key32 (rootB r s) := ⟨by unfold rootB; rw [List.length_drop, deriveL_len], fun x hx => deriveL_bytes _ _ _ _ x (List.mem_of_mem_drop hx)⟩
theorem Tryd.eqlK {l r : List Int} (hl : Key32 l) (hr : Key32 r) (w : World) : (binOp .eql 23 (keyV l) (keyV r)).run Tryd.prog w = .ok (.bool (l == r)) w := eqlKey 23 5 32 Tryd.undK Tryd.underlying5 Tryd.sizeU8S hl.1 hr.1 hl.2 hr.2 w
theorem Tryd.neqK {l r : List Int} (hl : Key32 l) (hr : Key32 r) (w : World) : (binOp .neq 23 (keyV l) (keyV r)).run Tryd.prog w = .ok (.bool (l != r)) w := neqKey 23 5 32 Tryd.undK Tryd.underlying5 Tryd.sizeU8S hl.1 hr.1 hl.2 hr.2 w
theorem Tryd.eqlKsame {l : List Int} (hl : Key32 l) (w : World) : (binOp .eql 23 (.agg (byteV l).toArray) (.agg (byteV l).toArray)).run Tryd.prog w = .ok (.bool true) w := by
  have := Tryd.eqlK hl hl w
  simpa using this
theorem Tryd.eqgK : Tryd.prog.eqGuardType Tryd.prog.depth 23 = false := by kernel_rfl
theorem Tryd.guardK (op : BinOp) (x y : Operand) (xs ys : Array Value) (w : World) : (eqGuard op 23 x y (.agg xs) (.agg ys)).run Tryd.prog w = .ok () w := run_eqGuard_agg w op _ x y xs ys Tryd.eqgK
theorem Tryd.builtZ : Tryd.prog.built 23 [] = some (byteV z32).toArray := by kernel_rfl
theorem key_len {l : List Int} (h : Key32 l) : (byteV l).length = 32 := by rw [byteV_len]; exact h.1
/-- Two keys in two variables, new since a world. -/
structure Pair (w : World) (g : Nat) (X Y : List Value) (w' : World) : Prop where
  one : Blk w' g X 23
  two : Blk w' (g + 1) Y 23
  keep : Keeps Nil w w'
  at_ : w.heap.size ≤ g
theorem Pair.keep0 {w w' w'' : World} {g : Nat} {X Y : List Value} (h : Pair w g X Y w') (hk : Keeps Nil w' w'') : Pair w g X Y w'' := ⟨h.one.keep0 hk, h.two.keep0 hk, h.keep.trans hk, h.at_⟩
theorem Pair.of {w wb wc : World} {X Y Z : List Value} (h1 : Blk wb w.heap.size X 23) (h2 : Blk wc (w.heap.size + 1) Y 23) (hk1 : Keeps (One w.heap.size) ((w.alloc (.cells Z.toArray 23)).alloc (.cells Z.toArray 23)) wb) (hk2 : Keeps (One (w.heap.size + 1)) wb wc) : Pair w w.heap.size X Y wc :=
  ⟨h1.keep hk2 (fun e => by have e' : w.heap.size = w.heap.size + 1 := e; omega), h2, ((((Keeps.refl Nil w).alloc _).alloc _).step hk1 (fun i hi => .inr (by rw [show i = w.heap.size from hi]; exact Nat.le_refl _))).step hk2 (fun i hi => .inr (by rw [show i = w.heap.size + 1 from hi]; omega)), Nat.le_refl _⟩

set_option maxRecDepth 20000 in
set_option maxHeartbeats 1600000 in
theorem chainfirst_walk (w : World) : Calls Tryd.prog 12 #[] w (TrueS w) := by
  have hzv := Tryd.zeroK32
  have hbz := Tryd.builtZ
  have heg := Tryd.eqgK
  have HZ := Lib.hid (show (byteV z32).length = 32 by rw [byteV_len, z32_len])
  have HA : (byteV (rootA z32 z32)).length = 32 ∧ ∀ v ∈ byteV (rootA z32 z32), v.oneCell' = true := ⟨key_len (rootA_key _ _), byteV_one _⟩
  have HB : (byteV (rootB z32 z32)).length = 32 ∧ ∀ v ∈ byteV (rootB z32 z32), v.oneCell' = true := ⟨key_len (rootB_key _ _), byteV_one _⟩
  have hq1 := fun w => Tryd.neqK (rootA_key z32 z32) key32_z w
  have hq2 := fun w => Tryd.neqK (rootA_key z32 z32) (rootB_key z32 z32) w
  rw [chain_nums.1] at hq1
  rw [chain_nums.2] at hq2
  have HR := Lib.hid (fun w => @root_walk w z32 z32 key32_z key32_z)
  unfold TwoPost at HR
  unfold keyV at HR hq1 hq2
  generalize byteV (rootA z32 z32) = A at *
  generalize byteV (rootB z32 z32) = B at *
  generalize byteV z32 = Z at *
  go_enter Tryd.func12, Tryd.ntmps12
  go_wp2_with (refine wpl_build rfl 23 #[] rfl Z [] hbz rfl ?_)
  refine (HR.out w).mono ?_
  rintro e w1 ⟨rfl, hk1⟩
  -- two values A, B (32 cells each) go into two new variables; the world before is w1
  obtain ⟨wa, hwa, hb1, hb2, hka, hsa⟩ := alloc2 w1 Z 23 Z 23
  subst hwa
  clear hka hsa
  go_wp2_with (first | (refine wpl_store rfl 23 _ _ rfl w1.heap.size rfl A rfl hb1 (by rw [HA.1, HZ.out]) (by rw [HA.1]; exact Tryd.infoK) HA.2 ?_))
  intro wb hb3 hk3 hs3
  clear hs3 hb1
  have hb4 := hb2.keep hk3 (fun e => by have e' : w1.heap.size + 1 = w1.heap.size := e; omega)
  clear hb2
  go_wp2_with (refine wpl_store rfl 23 _ _ rfl (w1.heap.size + 1) rfl B rfl hb4 (by rw [HB.1, HZ.out]) (by rw [HB.1]; exact Tryd.infoK) HB.2 ?_)
  intro w2 hb6 hk6 hs6
  clear hs6
  have hp2 := Pair.of hb3 hb6 hk3 hk6
  clear hb3 hk3 hb4 hb6 hk6
  generalize w1.heap.size = g2 at *
  have h1 := hp2.one
  have h2 := hp2.two
  have hK := hk1.trans hp2.keep
  clear hp2 hk1
  go_wp2_with (first | (refine wpl_build rfl 23 #[] rfl Z [] hbz rfl ?_) | (refine wpl_load rfl 23 _ rfl g2 rfl h1 _ Tryd.undK rfl (by rw [HA.1]; exact Tryd.infoK) ?_) | (refine wpl_load rfl 23 _ rfl (g2 + 1) rfl h2 _ Tryd.undK rfl (by rw [HB.1]; exact Tryd.infoK) ?_))
  go_ret
  exact ⟨by first | rfl | simp, hK⟩
end Go.Proofs.YtnkahfpinkgimaaDoor
