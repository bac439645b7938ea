/-
  Chapter 11's laws: what they share: the first examples; the law CodeFalls.
-/
import Derived.Test.YtdkfhfflhglmaaaDoorRead
import Derived.Test.YtdkfhfflhglmaaaDoorNumber
namespace Go.Proofs.YtdkfhfflhglmaaaDoor
set_option linter.unusedSimpArgs false
set_option linter.unusedVariables false
open Go.RowKit

def TrueC (w : World) (e : Ending) (w' : World) : Prop := e = .returned (.bool true) ∧ Keeps Nil w w'
theorem IsErr.none {w : World} {p : Nat → Addr} {v : Value} {c : Int} {pl : Bool} {q : Int} (h : IsErr w p v c pl q) (hc : c = 0) : v = .nilIface := by
  rcases h with ⟨rfl, _⟩ | ⟨k, _, _, hc', _⟩ | ⟨b, k, _, _, _, hc', _⟩
  · rfl
  · omega
  · omega
theorem IsErr.some {w : World} {p : Nat → Addr} {v : Value} {c : Int} {pl : Bool} {q : Int} (h : IsErr w p v c pl q) (hc : c ≠ 0) : ∃ u x, v = .iface u x := by
  rcases h with ⟨_, h, _⟩ | ⟨k, _, rfl, _⟩ | ⟨b, k, _, rfl, _⟩
  · exact absurd h hc
  · exact ⟨_, _, rfl⟩
  · exact ⟨_, _, rfl⟩
set_option maxRecDepth 20000 in
set_option maxHeartbeats 800000 in
theorem codefirst_walk {w : World} {p : Nat → Addr} (hE : ErrTwo w p) : Calls Tryd.prog 25 #[] w (TrueC w) := by
  have h0 : IsWr 38 (w.alloc (.cells #[.slice none 0 0] 38)) w.heap.size none 0 [] := IsWr.new w _ _ rfl
  have hk0 : Keeps Nil w (w.alloc (.cells #[.slice none 0 0] 38)) := (Keeps.refl Nil w).alloc _
  go_enter Tryd.func25, Tryd.ntmps25
  go_wp2_with fail
  refine (wrU32_walk h0 258 (by omega) (by omega) (by simp)).mono ?_
  rintro e w1 ⟨a1, c1, rfl, h1, hk1, hf1⟩
  have hK1 : Keeps Nil w w1 := hk0.step hk1 (fun i hi => by
    rcases hi with rfl | hi
    · exact .inr (Nat.le_refl _)
    · exact (blkOf_none _ hi).elim)
  go_wp2_with fail
  refine (wrBytes_walk h1 (by simp [le4]) (by decide)).mono ?_
  rintro e w2 ⟨a2, c2, rfl, ho2, hk2, hf2⟩
  have hK2 := hK1.trans hk2
  have hlen : ([] ++ le4 258 : List Int).length = 4 := rfl
  rw [hlen] at ho2 ⊢
  clear h0 hk0 h1 hk1 hf1 hK1 hk2
  go_wp2_with fail
  refine (lawRead_walk 81 #[] w2 (fun _ _ => by kernel_rfl) hE hK2 (a := none) (len := 0) (capb := 0) (l := []) ⟨rfl, by omega, fun h => by omega, fun x hx => by cases hx⟩ (fun _ => ⟨rfl, rfl⟩) (by omega) (S := Nil) (fun _ h => h.elim) (R := fun _ o _ => o = .done 0)
    (fun c w3 gr ar cr h3 hc1 hc2 hold hne hrd => ?_)).mono ?_
  · go_enter Tryd.func81, Tryd.ntmps81
    go_wp2_with fail
    go_end0
    exact ⟨.inl ⟨0, ar, cr, rfl, hrd, rfl⟩, Keeps.refl _ _⟩
  rintro e w4 ⟨o, v, c, w5, rfl, hI, _, rfl, _, hk4, _⟩
  obtain rfl := hI.none (by simp [outC])
  have ho4 := ho2.keep0 hk4
  obtain ⟨b, rfl, hb, hr⟩ := ho4.some (by omega)
  have d0 := hr 0 (.int .u8 2) rfl
  have d1 := hr 1 (.int .u8 1) rfl
  clear ho4 ho2 hr
  go_wp2_with fail
  go_ret
  exact ⟨rfl, hK2.trans hk4⟩
end Go.Proofs.YtdkfhfflhglmaaaDoor
