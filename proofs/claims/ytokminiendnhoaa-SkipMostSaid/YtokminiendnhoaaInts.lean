/-
  A slice of structs of ints: what an argument of such a type holds.
-/
import Derived.Test.YtokminiendnhoaaProg
import Derived.Test.YtokminiendnhoaaLib
import Derived.Deep.Slices
import Derived.ChangeSame
namespace Go.Proofs.Ytokminiendnhoaa
set_option linter.unusedSimpArgs false
set_option linter.unusedVariables false
open Go.RowKit

structure IsInts (k : Nat) (w : World) (a : Option Addr) (len : Nat) (z : Nat → Nat → Int) : Prop where
  most : len ≤ 9223372036854775807
  cell : 0 < len → ∃ b off, a = some ⟨b, off, none⟩ ∧ b < w.heap.size ∧ ∀ i j, i < len → j < k → w.cell? ⟨b, off + (i * k + j), none⟩ = some (.int .i64 (z i j))
  wf : ∀ i j, i < len → j < k → -9223372036854775808 ≤ z i j ∧ z i j ≤ 9223372036854775807
theorem IsInts.keep {k : Nat} {w w' : World} {a : Option Addr} {len : Nat} {z : Nat → Nat → Int} (h : IsInts k w a len z) (hk : Keeps Nil w w') : IsInts k w' a len z :=
  ⟨h.most, fun h0 => by
    obtain ⟨b, off, ha, hb, hc⟩ := h.cell h0
    exact ⟨b, off, ha, Nat.lt_of_lt_of_le hb hk.size, fun i j hi hj => hk.cell (hc i j hi hj) (fun h => h)⟩, h.wf⟩

theorem IsInts.open {H : Type} {enc : TypeId × Value → H} {P : Program} {w : World} {base : Nat} {spare : Nat → Bool} {held : Bool} {t e : TypeId} {fs : Array Field} {k : Nat} {a : Option Addr} {len cap : Nat} {d : DataW H} {ps : List MemPlace}
    (ht : P.underlying t = some (.slice e)) (he : P.underlying e = some (.struct fs)) (ce : P.cellsOf e = k) (hk : 0 < k)
    (hf : ∀ j, j < k → ∃ f, fs[j]? = some f ∧ f.offset = j ∧ P.cellsOf f.type = 1 ∧ P.underlying f.type = some (.int .i64))
    (h : DataW.Trod enc P w base spare held t (.slice a len cap) d ps) : ∃ z, IsInts k w a len z := by
  obtain ⟨fuel, h⟩ := h
  rcases Deep.open_slice ht h with ⟨hcs, _⟩ | ⟨x, l, c, m, n, D, Pl, hcs, hb, hl, hm, hmm, _, hx⟩
  · simp [Value.cells] at hcs
    obtain ⟨rfl, rfl, rfl⟩ := hcs
    exact ⟨fun _ _ => 0, by omega, fun h => by omega, fun _ _ h => by omega⟩
  · simp [Value.cells] at hcs
    obtain ⟨rfl, rfl, rfl⟩ := hcs
    have hlm : len ≤ m := by rw [hmm]; split <;> omega
    have each : ∀ i j, i < len → j < k → ∃ q : Int, w.cell? (x.add (i * k + j)) = some (.int .i64 q) ∧ (Lit.int .i64 q).wf = true := by
      intro i j hi hj
      obtain ⟨cs', h1, h2⟩ := hx i (by omega)
      rw [ce] at h1
      obtain ⟨_, hlen, hcell⟩ := World.cells?_some h1
      obtain ⟨xs, n', hn', hxy, _, hxl, hff⟩ := DataW.trod_struct he h2
      obtain ⟨f, hf1, hf2, hf3, hf4⟩ := hf j hj
      have g := hff j f hf1
      rw [hf2, hf3] at g
      have hjl : j < cs'.length := by omega
      have hdt : (cs'.drop j).take 1 = [cs'[j]] := by rw [List.drop_eq_getElem_cons hjl]; rfl
      rw [hdt] at g
      have hxs : j < xs.length := by
        rw [hxl]
        rcases Nat.lt_or_ge j fs.size with h' | h'
        · exact h'
        · rw [Array.getElem?_eq_none h'] at hf1; cases hf1
      rw [List.getElem?_eq_getElem hxs] at g
      obtain ⟨q, hq, _, hw⟩ := DataW.trod_int hf4 g
      have h3 := hcell j hj
      rw [Deep.add_add] at h3
      refine ⟨q, ?_, hw⟩
      rw [h3, List.getElem?_eq_getElem hjl]
      simp only [List.cons.injEq, and_true] at hq
      rw [hq]
    have hz : ∃ z : Nat → Nat → Int, ∀ i j, i < len → j < k → w.cell? (x.add (i * k + j)) = some (.int .i64 (z i j)) ∧ (Lit.int .i64 (z i j)).wf = true :=
      ⟨fun i j => if hh : i < len ∧ j < k then (each i j hh.1 hh.2).choose else 0, fun i j hi hj => by
        have := (each i j hi hj).choose_spec
        simpa [hi, hj] using this⟩
    obtain ⟨z, hz⟩ := hz
    unfold maxLen at hm
    refine ⟨z, by omega, fun h0 => ?_, fun i j hi hj => i64_wf (hz i j hi hj).2⟩
    obtain ⟨b, off, spot⟩ := x
    have h1 := (hz 0 0 h0 hk).1
    have hs : spot = none := by simpa [Addr.add] using World.cell?_spot h1
    subst hs
    exact ⟨b, off, rfl, by simpa [Addr.add] using World.block_lt_of_cell? w _ h1, fun i j hi hj => by have h2 := (hz i j hi hj).1; rw [Addr.add_lit] at h2; exact h2⟩
end Go.Proofs.Ytokminiendnhoaa
