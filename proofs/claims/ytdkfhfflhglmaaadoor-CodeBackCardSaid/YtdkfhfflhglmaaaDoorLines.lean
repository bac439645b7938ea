/-
  A slice of slices of bytes: what an argument of such a type holds.
-/
import Derived.Test.YtdkfhfflhglmaaaDoorProg
import Derived.Test.YtdkfhfflhglmaaaDoorLib
import Derived.Deep.Matrix
namespace Go.Proofs.YtdkfhfflhglmaaaDoor
open Go.RowKit

/-- The rows: where each lies, its bytes, its room. -/
structure Lines where
  at_ : Nat → Option Addr
  row : Nat → List Int
  cap : Nat → Nat
structure IsRows (w : World) (a : Option Addr) (len : Nat) (z : Lines) : Prop where
  most : len ≤ 9223372036854775807
  cell : 0 < len → ∃ b off, a = some ⟨b, off, none⟩ ∧ b < w.heap.size ∧ ∀ i, i < len → w.cell? ⟨b, off + i, none⟩ = some (.slice (z.at_ i) (z.row i).length (z.cap i))
  row : ∀ i, i < len → Row .u8 w (z.at_ i) (z.row i).length (z.row i)
  nil : ∀ i, i < len → z.at_ i = none → z.cap i = 0 ∧ (z.row i).length = 0
theorem IsRows.keep {w w' : World} {a : Option Addr} {len : Nat} {z : Lines} (h : IsRows w a len z) (hk : Keeps Nil w w') : IsRows w' a len z :=
  ⟨h.most, fun h0 => by
    obtain ⟨b, off, ha, hb, hc⟩ := h.cell h0
    exact ⟨b, off, ha, Nat.lt_of_lt_of_le hb hk.size, fun i hi => hk.cell (hc i hi) (fun h => h)⟩, fun i hi => (h.row i hi).keep hk, h.nil⟩

theorem IsRows.open {H : Type} {enc : TypeId × Value → H} {P : Program} {w : World} {base : Nat} {held : Bool} {t e q : TypeId} {a : Option Addr} {len cap : Nat} {d : DataW H} {ps : List MemPlace}
    (ht : P.underlying t = some (.slice e)) (he : P.underlying e = some (.slice q)) (hq : P.underlying q = some (.int .u8)) (ce : P.cellsOf e = 1) (cq : P.cellsOf q = 1)
    (h : DataW.Trod enc P w base (fun _ => true) held t (.slice a len cap) d ps) : ∃ z, IsRows w a len z := by
  obtain ⟨fuel, h⟩ := h
  rcases Deep.open_int_rows ht he hq ce cq h with ⟨hcs, _⟩ | ⟨x, l, c, A, L, C, Z, hcs, _, hl, hm, _, hx⟩
  · simp [Value.cells] at hcs
    obtain ⟨rfl, rfl, rfl⟩ := hcs
    exact ⟨⟨fun _ => none, fun _ => [], fun _ => 0⟩, by omega, fun h => by omega, fun _ h => by omega, fun _ h => by omega⟩
  · simp [Value.cells] at hcs
    obtain ⟨rfl, rfl, rfl⟩ := hcs
    unfold maxLen at hm
    have hlen : ∀ i, i < len → ((Z i).take (L i)).length = L i := fun i hi => by
      obtain ⟨_, h2, h3, h4, _⟩ := hx i (by omega)
      simp; omega
    refine ⟨⟨A, fun i => (Z i).take (L i), C⟩, by omega, fun h0 => ?_, fun i hi => ?_, fun i hi ha => ?_⟩
    · obtain ⟨b, off, spot⟩ := x
      have h1 := (hx 0 (by omega)).1
      have hs : spot = none := by simpa [Addr.add] using World.cell?_spot h1
      subst hs
      refine ⟨b, off, rfl, by simpa [Addr.add] using World.block_lt_of_cell? w _ h1, fun i hi => ?_⟩
      have h2 := (hx i (by omega)).1
      rw [Addr.add_lit] at h2
      rw [h2, hlen i hi]
    · obtain ⟨_, h2, h3, h4, h5, h6, h7⟩ := hx i (by omega)
      unfold maxLen at h3
      refine ⟨rfl, by rw [hlen i hi]; omega, fun h0 => ?_, fun n hn => h5 n (List.mem_of_mem_take hn)⟩
      rw [hlen i hi] at h0 ⊢
      cases hA : A i with
      | none => have := h6 hA; omega
      | some a' =>
        obtain ⟨_, hc⟩ := h7 a' hA
        obtain ⟨b, off, spot⟩ := a'
        have h1 := hc 0 (by omega)
        have hs : spot = none := by simpa [Addr.add] using World.cell?_spot h1
        subst hs
        refine ⟨b, off, hA, by simpa [Addr.add] using World.block_lt_of_cell? w _ h1, fun j hj => ?_⟩
        have h8 := hc j (by omega)
        rw [Addr.add_lit] at h8
        rw [h8]
        simp [List.getD, List.getElem?_take, hj]
    · obtain ⟨_, h2, h3, h4, h5, h6, h7⟩ := hx i (by omega)
      have := h6 ha
      rw [hlen i hi]
      exact ⟨this, by omega⟩
end Go.Proofs.YtdkfhfflhglmaaaDoor
