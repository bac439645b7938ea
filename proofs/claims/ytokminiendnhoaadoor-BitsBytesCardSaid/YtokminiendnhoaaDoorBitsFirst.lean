/-
  The chapter's examples over bits.
-/
import Derived.Test.YtokminiendnhoaaDoorBits
import Derived.Test.YtokminiendnhoaaDoorNumber
namespace Go.Proofs.YtokminiendnhoaaDoor
open Go.RowKit

theorem ptr_ne (g : Nat) : (Value.pointer (some ⟨g, 0, none⟩) : Value) ≠ .pointer none := by simp

def True_ (w : World) (e : Ending) (w' : World) : Prop := e = .returned (.bool true) ∧ Keeps Nil w w'

set_option maxHeartbeats 400000 in
theorem bitsfirst_walk (w : World) : Calls Tryd.prog 6 #[] w (True_ w) := by
  have n0 : nextI (capN 0) (List.replicate (bytesOf (capN 0)) 0) 0 = -1 := by decide +kernel
  have s0 : hasI (capN 3) (List.replicate (bytesOf (capN 3)) 0) 0 = false := by decide +kernel
  have s1 : hasI (capN 3) (setB (List.replicate (bytesOf (capN 3)) 0) 0) 0 = true := by decide +kernel
  have f1 : frontI (capN 3) (setB (List.replicate (bytesOf (capN 3)) 0) 0) = 1 := by decide +kernel
  have n1 : nextI (capN 3) (setB (List.replicate (bytesOf (capN 3)) 0) 0) 0 = 1 := by decide +kernel
  have HN := Lib.hid (And.intro n0 (And.intro s0 (And.intro s1 (And.intro f1 n1))))
  clear n0 s0 s1 f1 n1
  go_enter Tryd.func6, Tryd.ntmps6
  go_wp2_with fail
  refine (new_walk _ _).mono ?_
  rintro e w1 ⟨g1, b1, c1, rfl, hm1, hk1, hg1, hb1⟩
  go_wp2_with fail
  refine (new_walk _ _).mono ?_
  rintro e w2 ⟨g2, b2, c2, rfl, hm2, hk2, hg2, hb2⟩
  go_wp2_with fail
  have hm1 := hm1.keep0 hk2
  refine (next_walk _ _ hm1 (by omega) (by omega)).mono ?_
  rintro e w3 ⟨rfl, q, rfl⟩
  rw [HN.out.1]
  go_wp2_with fail
  refine (set_yes 0 _ (hm2.drewN _) (by decide) HN.out.2.1).mono ?_
  rintro e w4 ⟨rfl, hm4, hk4⟩
  go_wp2_with fail
  refine (set_no 0 _ hm4 (by omega) (by omega) (.inr (.inr HN.out.2.2.1))).mono ?_
  rintro e w5 ⟨rfl, rfl⟩
  go_wp2_with fail
  refine (front_walk _ hm4).mono ?_
  rintro e w6 ⟨rfl, rfl⟩
  rw [HN.out.2.2.2.1]
  go_wp2_with fail
  refine (next_walk _ _ hm4 (by omega) (by omega)).mono ?_
  rintro e w7 ⟨rfl, q7, rfl⟩
  rw [HN.out.2.2.2.2]
  go_wp2_with fail
  go_ret
  exact ⟨rfl, (((hk1.trans hk2).drewN q).step hk4 (fun i hi => .inr (by have := hb2 i hi; have := hk1.size; omega))).drewN _⟩

end Go.Proofs.YtokminiendnhoaaDoor
