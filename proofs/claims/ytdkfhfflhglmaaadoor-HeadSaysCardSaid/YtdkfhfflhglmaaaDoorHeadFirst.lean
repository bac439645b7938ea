/-
  Chapter 13's first examples.
-/
import Derived.Test.YtdkfhfflhglmaaaDoorHeadReads
namespace Go.Proofs.YtdkfhfflhglmaaaDoor
set_option linter.unusedSimpArgs false
set_option linter.unusedVariables false
open Go.RowKit

theorem zk_head : IsHead zk 0 0 := ⟨zk_len, fun x hx => by have := List.eq_of_mem_replicate hx; omega, by omega, by omega⟩
theorem row_nil (w : World) : Row .u8 w none 0 [] := ⟨rfl, by omega, fun h => by omega, fun x hx => by cases hx⟩
set_option maxRecDepth 20000 in
set_option maxHeartbeats 1600000 in
theorem headfirst_walk {w : World} {p : Nat → Addr} (hE : Errs w p) : Calls Tryd.prog 59 #[] w (TrueC w) := by
  have hR := headRead_walk hE (row_nil w) (capb := 0) (fun _ => ⟨rfl, rfl⟩) (by omega)
  have hH0 : readH [] = zeroH := by simp [readH]
  have hzv := Tryd.zeroHead
  have hBt := fun w => headBytes_walk zk_head w
  have hz0 : headV zk 0 0 = zeroH := rfl
  rw [hz0] at hBt
  have hlen : (headB zk 0 0).length = 40 := headB_len zk_head
  have hz34 : zeroH.length = 34 := headV_len zk 0 0 zk_len
  have hz1 : ∀ v ∈ zeroH, v.oneCell' = true := headV_one zk 0 0
  have HB0 := Lib.hid Tryd.builtHead0
  have HBt := Lib.hid hBt
  have HR := Lib.hid hR
  clear hR hBt hz0
  generalize zeroH = zc at *
  go_enter Tryd.func59, Tryd.ntmps59
  go_wp2_with fail
  refine HR.out.mono ?_
  rintro e w1 ⟨v, rfl, hI, hfr, hk1⟩
  rw [hH0]
  have hb := Blk.new w1 zc 76
  have hka := (Keeps.refl Nil w1).alloc (.cells zc.toArray 76)
  have hI1 : IsErr w1 p v 103 true 0 := hI
  go_wp2_with (refine wpl_store rfl 76 _ _ rfl w1.heap.size rfl zc rfl hb rfl (by rw [hz34]; exact Tryd.infoHead) hz1 ?_)
  intro w2 hb2 hk2 hs2
  have hKs : Keeps (One w1.heap.size) w1 w2 := (hka.nil (S := One w1.heap.size)).step hk2 (fun i hi => .inl hi)
  have hK2 : Keeps Nil w w2 := hk1.step hKs (fun i hi => .inr (by rw [show i = w1.heap.size from hi]; exact hk1.size))
  have hI2 : IsErr w2 p v 103 true 0 := hI1.keepS hKs (fun bb hbb e => by have h1 := hI1.lt bb hbb; have h2 : bb = w1.heap.size := e; omega)
  clear hKs hk2 hka hb hb2 hI hI1 hfr hk1
  go_wp2_with fail
  refine (placed_walk 103 0 _ (by omega)).mono ?_
  rintro e w3 ⟨rfl, hk3⟩
  go_wp2_with fail
  refine (same_walk (hE.keep (hK2.trans hk3)) (hI2.keep hk3) _ _ _).mono ?_
  rintro e w4 ⟨rfl, hk4⟩
  have hS : sameF 103 true 0 103 true 0 = true := by decide
  rw [hS]
  have hK4 := hK2.trans (hk3.trans hk4)
  clear hI2 hk3 hk4 hK2
  go_wp2_with (refine wpl_build rfl 76 _ rfl zc _ HB0.out (by first | rfl | simp [Act.eval]) ?_)
  go_wp2_with fail
  refine (HBt.out _).mono ?_
  rintro e w5 ⟨a5, c5, rfl, ho5, hk5, hf5⟩
  rw [hlen]
  go_wp2_with fail
  go_ret
  exact ⟨by first | rfl | simp, hK4.trans hk5⟩
end Go.Proofs.YtdkfhfflhglmaaaDoor
