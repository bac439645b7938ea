/-
  Chapter 14's laws: what they share: the first examples; the store over numbers.
-/
import Derived.Test.YtokminiendnhoaaSkipLoad
import Derived.Test.YtokminiendnhoaaMake
import Derived.Test.YtokminiendnhoaaNumber
namespace Go.Proofs.Ytokminiendnhoaa
set_option linter.unusedSimpArgs false
set_option linter.unusedVariables false
open Go.RowKit

def TrueK (w : World) (e : Ending) (w' : World) : Prop := e = .returned (.bool true) ∧ Keeps Nil w w'
/-- The key that begins with x. -/
def key1 (x : Int) : List Int := x :: List.replicate 31 0
theorem key1_len (x : Int) : (key1 x).length = 32 := rfl
theorem key1_bytes (x : Int) (h0 : 0 ≤ x) (h1 : x < 256) : AreB (key1 x) := fun y hy => by
  rcases List.mem_cons.1 hy with rfl | h
  · exact ⟨h0, h1⟩
  · rw [List.eq_of_mem_replicate h]; decide
theorem Try.builtKey1 (x : Int) : Try.prog.built 37 [(0, .int .u8 x)] = some (byteV (key1 x)).toArray := by kernel_rfl
theorem takeE_eraseP (l : List Ent) (dh : List Int) (n : Int) : takeE l dh n = l.eraseP (isE dh n) := by
  have : ∀ (l : List Ent) (k : Nat), (findE dh n l k = -1 → l.eraseP (isE dh n) = l) ∧ (∀ i : Nat, findE dh n l k = ((k + i : Nat) : Int) → l.eraseIdx i = l.eraseP (isE dh n)) := by
    intro l
    induction l with
    | nil => intro k; exact ⟨fun _ => rfl, fun i _ => by simp⟩
    | cons e l ih =>
      intro k
      by_cases h : isE dh n e = true
      · refine ⟨fun h1 => ?_, fun i h1 => ?_⟩
        · rw [findE, if_pos h] at h1; omega
        · rw [findE, if_pos h] at h1
          obtain rfl : i = 0 := by omega
          simp [List.eraseP_cons, h]
      · have h' : isE dh n e = false := by simpa using h
        refine ⟨fun h1 => ?_, fun i h1 => ?_⟩
        · rw [findE, if_neg h] at h1
          rw [List.eraseP_cons, h']
          simp [(ih (k + 1)).1 h1]
        · rw [findE, if_neg h] at h1
          cases i with
          | zero =>
            exfalso
            have : ∀ (l : List Ent) (k : Nat), findE dh n l k = -1 ∨ (k : Int) ≤ findE dh n l k := by
              intro l
              induction l with
              | nil => intro k; exact .inl rfl
              | cons e l ih =>
                intro k
                rw [findE]
                split
                · exact .inr (by omega)
                · rcases ih (k + 1) with h | h
                  · exact .inl h
                  · exact .inr (by omega)
            rcases this l (k + 1) with h2 | h2 <;> omega
          | succ i =>
            have := (ih (k + 1)).2 i (by rw [h1]; congr 1; omega)
            rw [List.eraseP_cons, h']
            simp [this]
  unfold takeE
  split
  · rename_i h
    exact ((this l 0).1 h).symm
  · rename_i h
    rcases place_lt l dh n with hp | ⟨i, hp, _⟩
    · contradiction
    · rw [hp]
      exact (this l 0).2 i (by rw [← placeE, hp]; simp)

set_option maxRecDepth 100000 in
set_option maxHeartbeats 1600000 in
theorem skipfirst_walk (w : World) : Calls Try.prog 16 #[] w (TrueK w) := by
  have hwe : WfE (key1 1, key1 3, 2) := ⟨rfl, rfl, key1_bytes 1 (by omega) (by omega), key1_bytes 3 (by omega) (by omega), by decide, by decide⟩
  have h0 : IsSt 34 42 (w.alloc (.cells #[.slice none 0 0] 34)) w.heap.size none 0 [] := ⟨Blk.new w [.slice none 0 0] _, Own.nil _ _ _, blkOf_none _, fun e he => by cases he⟩
  have hk0 : Keeps Nil w (w.alloc (.cells #[.slice none 0 0] 34)) := (Keeps.refl Nil w).alloc _
  have hput : putE [] (key1 1) 2 (key1 3) = [(key1 1, key1 3, 2)] := by decide
  have hfk : findKey [(key1 1, key1 3, 2)] (key1 1) 2 = key1 3 := by decide
  have hhas : hasE [(key1 1, key1 3, 2)] (key1 1) 2 = true := by decide
  have HD := Lib.hid (And.intro hput (And.intro hfk hhas))
  clear hput hfk hhas
  go_enter Try.func16, Try.ntmps16
  go_wp2_with fail
  refine (all_walk h0 (by simp)).mono ?_
  rintro e w1 ⟨a1, c1, rfl, _, hk1, _⟩
  have h1 := h0.keep0 hk1
  have hK1 := hk0.trans hk1
  have hgs : w.heap.size ≤ w.heap.size := Nat.le_refl _
  clear h0 hk0 hk1
  generalize hg : w.heap.size = gs at *
  go_wp2_with (refine wpl_buildC rfl 37 0 _ rfl _ (Try.builtKey1 _) ?_)
  refine (put_walk h1 (by simp) (key1 1) (key1 3) 2 hwe).mono ?_
  rintro e w2 ⟨a2, c2, rfl, h2, hk2, hf2⟩
  rw [HD.out.1] at h2
  have hK2 : Keeps Nil w w2 := hK1.step hk2 (fun i hi => by
    rcases hi with rfl | hi
    · exact .inr (by omega)
    · exact (blkOf_none _ hi).elim)
  clear hk2 h1 hK1
  go_wp2_with (refine wpl_buildC rfl 37 0 _ rfl _ (Try.builtKey1 _) ?_)
  refine (find_walk h2 (key1 1) 2 rfl hwe.b1).mono ?_
  rintro e w3 ⟨rfl, hk3⟩
  rw [HD.out.2.1, HD.out.2.2]
  have h3 := h2.keep0 hk3
  have hK3 := hK2.trans hk3
  clear h2 hk3 hK2
  obtain ⟨zc, hzv, hzl⟩ : ∃ zc : List Value, (∀ w, (zeroValue 37).run Try.prog w = .ok (.agg zc.toArray) w) ∧ zc.length = 32 := ⟨List.replicate 32 (.int .u8 0), fun w => by kernel_rfl, rfl⟩
  have HZ := Lib.hid hzl
  clear hzl
  have hl3 : (byteV (key1 3)).length = 32 := rfl
  go_wp2_with (refine wpl_store rfl 37 _ _ rfl w3.heap.size rfl (byteV (key1 3)) rfl (Blk.new w3 zc _) (by rw [hl3]; exact HZ.out.symm) (by rw [hl3]; exact Try.infoKey) oneCell_byteV ?_)
  intro w4 hb4 hk4 hs4
  have hks : Keeps Nil w3 w4 := ((Keeps.refl Nil w3).alloc _).step hk4 (fun i hi => .inr (by rw [show i = w3.heap.size from hi]; exact Nat.le_refl _))
  have h4 := h3.keep0 hks
  have hK4 := hK3.trans hks
  have hq : ∀ w, (binOp .eql 37 (keyV (key1 3)) (keyV (key1 3))).run Try.prog w = .ok (.bool true) w := fun w => by
    rw [Try.eqlK hwe.l2 hwe.l2 hwe.b2 hwe.b2 w]
    simp
  clear h3 hK3 hks hk4 hs4 hzv
  generalize w3.heap.size = g3 at *
  go_wp2_with (first | (refine wpl_load rfl 37 _ rfl g3 rfl hb4 _ Try.undKey rfl (by rw [hl3]; exact Try.infoKey) ?_) | (refine wpl_buildC rfl 37 0 _ rfl _ (Try.builtKey1 _) ?_))
  refine (all_walk h4 (by simp)).mono ?_
  rintro e w5 ⟨a5, c5, rfl, _, hk5, _⟩
  go_wp2_with fail
  go_ret
  exact ⟨rfl, hK4.trans hk5⟩
end Go.Proofs.Ytokminiendnhoaa
