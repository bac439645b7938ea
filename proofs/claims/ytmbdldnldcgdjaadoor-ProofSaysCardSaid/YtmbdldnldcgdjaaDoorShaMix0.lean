/-
  A region that draws its order, of steps that may come in any order: walked under an invariant. The constants of the rounds.
-/
import Derived.Test.YtmbdldnldcgdjaaDoorShaWords
import Derived.Test.YtmbdldnldcgdjaaDoorRegion
namespace Go.Proofs.YtmbdldnldcgdjaaDoor
set_option linter.unusedSimpArgs false
set_option linter.unusedVariables false
open Go.RowKit

/-- The states of a drawn region, each with what holds in it; from each, whatever may come up leads to one of them. -/
theorem wpAnyH_inv {P : Program} {md : Region.Mode} {ops : Array Oper} {Q : Exit → Act → World → Prop} {S : World → Prop} {σ : Type} (L : σ → Array Bool) (I : σ → Act → World → Prop) (rank : σ → Nat) (rd : σ → List Nat) (nx : σ → Nat → σ) (fuel : Nat)
    (hready : ∀ s, 0 < rank s → Region.ready md ops (L s) = rd s ∧ rd s ≠ [])
    (hnext : ∀ s, 0 < rank s → ∀ i ∈ rd s, (L s).setIfInBounds i true = L (nx s i) ∧ rank (nx s i) + 1 = rank s)
    (hstep : ∀ s a w, I s a w → ∀ i ∈ rd s, ∃ oi, ops[i]? = some oi ∧ ∀ K : Act → World → Prop, (∀ a' w', S w' → I (nx s i) a' w' → K a' w') → if Region.wanted oi (yielded ops a.tmps) = true then oi.wp P a w K Q else K (a.put oi.dst undef) w)
    (hfin : ∀ s a w, rank s = 0 → I s a w → wpAnyH P md ops Q S fuel (L s) a w) :
    ∀ (n : Nat) (s : σ) (a : Act) (w : World), rank s = n → I s a w → wpAnyH P md ops Q S (n + fuel) (L s) a w := by
  intro n
  induction n with
  | zero => intro s a w hr hI; rw [Nat.zero_add]; exact hfin s a w hr hI
  | succ n ih =>
    intro s a w hr hI
    obtain ⟨h1, h2⟩ := hready s (by omega)
    rw [Nat.add_right_comm]
    refine wpAnyH_all h1 h2 (fun i hi => ?_)
    obtain ⟨oi, ho, hs⟩ := hstep s a w hI i hi
    obtain ⟨hn1, hn2⟩ := hnext s (by omega) i hi
    unfold wpOp
    rw [ho]
    have h3 := hs (fun a' w' => S w' ∧ wpAnyH P md ops Q S (n + fuel) ((L s).setIfInBounds i true) a' w') (fun a' w' hS hI' => ⟨hS, by rw [hn1]; exact ih (nx s i) a' w' (by omega) hI'⟩)
    simp only
    split
    · rename_i hw; rw [if_pos hw] at h3; exact .inl h3
    · rename_i hw; rw [if_neg hw] at h3; exact h3

def shaK : List Int := [
  0x428a2f98, 0x71374491, 0xb5c0fbcf, 0xe9b5dba5, 0x3956c25b, 0x59f111f1, 0x923f82a4, 0xab1c5ed5,
  0xd807aa98, 0x12835b01, 0x243185be, 0x550c7dc3, 0x72be5d74, 0x80deb1fe, 0x9bdc06a7, 0xc19bf174,
  0xe49b69c1, 0xefbe4786, 0x0fc19dc6, 0x240ca1cc, 0x2de92c6f, 0x4a7484aa, 0x5cb0a9dc, 0x76f988da,
  0x983e5152, 0xa831c66d, 0xb00327c8, 0xbf597fc7, 0xc6e00bf3, 0xd5a79147, 0x06ca6351, 0x14292967,
  0x27b70a85, 0x2e1b2138, 0x4d2c6dfc, 0x53380d13, 0x650a7354, 0x766a0abb, 0x81c2c92e, 0x92722c85,
  0xa2bfe8a1, 0xa81a664b, 0xc24b8b70, 0xc76c51a3, 0xd192e819, 0xd6990624, 0xf40e3585, 0x106aa070,
  0x19a4c116, 0x1e376c08, 0x2748774c, 0x34b0bcb5, 0x391c0cb3, 0x4ed8aa4a, 0x5b9cca4f, 0x682e6ff3,
  0x748f82ee, 0x78a5636f, 0x84c87814, 0x8cc70208, 0x90befffa, 0xa4506ceb, 0xbef9a3f7, 0xc67178f2]
theorem shaK_isW : ∀ x ∈ shaK, IsW x := by unfold IsW; decide
theorem shaK_len : shaK.length = 64 := rfl
theorem Tryd.builtK : Tryd.prog.built 75 ((wordV shaK).zipIdx.map fun x => (x.2, x.1)) = some (wordV shaK).toArray := by kernel_rfl
set_option maxRecDepth 20000 in
set_option maxHeartbeats 1600000 in
theorem kround_walk (w : World) : Calls Tryd.prog 51 #[] w fun e w' => e = .returned (.agg (wordV shaK).toArray) ∧ Keeps Nil w w' := by
  have hzv := Tryd.zeroW64
  have hl1 : (wordV shaK).length = 64 := rfl
  have hl2 : (wordV (wlUp [] 0)).length = 64 := rfl
  have hb := Blk.new w (wordV (wlUp [] 0)) 75
  have hk := (Keeps.refl Nil w).alloc (.cells (wordV (wlUp [] 0)).toArray 75)
  have HB := Lib.hid Tryd.builtK
  have hone := wordV_one shaK
  have hps : (wordV shaK).zipIdx.map (fun x => (x.2, x.1)) = (wordV shaK).zipIdx.map fun x => (x.2, x.1) := rfl
  generalize hW : wordV shaK = W at *
  have HW := Lib.hid hW
  clear hW hps
  generalize wordV (wlUp [] 0) = Z at *
  go_enter Tryd.func51, Tryd.ntmps51
  go_wp2_with (first | (refine wpl_build rfl 75 _ rfl W _ HB.out (by rw [← HW.out]; kernel_rfl) ?_) | (refine wpl_store rfl 75 _ _ rfl w.heap.size rfl W rfl hb (by rw [hl1, hl2]) (by rw [hl1]; exact Tryd.infoW64) hone ?_))
  intro w3 hb3 hk3 hs3
  go_wp2_with fail
  refine ret_blk Tryd.results51 w.heap.size rfl hb3 _ Tryd.undW64 rfl (by rw [hl1]; exact Tryd.infoW64) rfl ⟨rfl, ?_⟩
  exact hk.step hk3 (fun i hi => .inr (by rw [show i = w.heap.size from hi]; exact Nat.le_refl _))
end Go.Proofs.YtmbdldnldcgdjaaDoor
