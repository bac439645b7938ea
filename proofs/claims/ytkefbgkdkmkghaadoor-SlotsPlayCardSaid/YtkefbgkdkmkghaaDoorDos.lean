/-
  A slice of structs of three ints and a slice of ints: what an argument of such a type holds.
-/
import Derived.Test.YtkefbgkdkmkghaaDoorProg
import Derived.Test.YtkefbgkdkmkghaaDoorLib
import Derived.Deep.Slices
import Derived.ChangeSame
namespace Go.Proofs.YtkefbgkdkmkghaaDoor
set_option linter.unusedSimpArgs false
set_option linter.unusedVariables false
open Go.RowKit

/-- One struct: three numbers, a list. -/
structure DoRow where
  num : Nat → Int
  at_ : Option Addr
  len : Nat
  cap : Nat
  row : List Int
structure IsDos (w : World) (a : Option Addr) (len : Nat) (z : Nat → DoRow) : Prop where
  most : len ≤ 9223372036854775807
  cell : 0 < len → ∃ b off, a = some ⟨b, off, none⟩ ∧ b < w.heap.size ∧ ∀ i, i < len → (∀ j, j < 3 → w.cell? ⟨b, off + (i * 4 + j), none⟩ = some (.int .i64 ((z i).num j))) ∧ w.cell? ⟨b, off + (i * 4 + 3), none⟩ = some (.slice (z i).at_ (z i).len (z i).cap)
  wf : ∀ i j, i < len → j < 3 → -9223372036854775808 ≤ (z i).num j ∧ (z i).num j ≤ 9223372036854775807
  row : ∀ i, i < len → Row .i64 w (z i).at_ (z i).len (z i).row ∧ (z i).len ≤ (z i).cap ∧ (z i).cap ≤ 9223372036854775807
theorem IsDos.keep {w w' : World} {a : Option Addr} {len : Nat} {z : Nat → DoRow} (h : IsDos w a len z) (hk : Keeps Nil w w') : IsDos w' a len z :=
  ⟨h.most, fun h0 => by
    obtain ⟨b, off, ha, hb, hc⟩ := h.cell h0
    exact ⟨b, off, ha, Nat.lt_of_lt_of_le hb hk.size, fun i hi => ⟨fun j hj => hk.cell ((hc i hi).1 j hj) (fun h => h), hk.cell (hc i hi).2 (fun h => h)⟩⟩, h.wf, fun i hi => ⟨(h.row i hi).1.keep hk, (h.row i hi).2⟩⟩

theorem IsDos.open {H : Type} {enc : TypeId × Value → H} {P : Program} {w : World} {base : Nat} {held : Bool} {t e ti : TypeId} {fs : Array Field} {a : Option Addr} {len cap : Nat} {d : DataW H} {ps : List MemPlace}
    (ht : P.underlying t = some (.slice e)) (he : P.underlying e = some (.struct fs)) (ce : P.cellsOf e = 4)
    (hf : ∀ j, j < 3 → ∃ f, fs[j]? = some f ∧ f.offset = j ∧ P.cellsOf f.type = 1 ∧ P.underlying f.type = some (.int .i64))
    (hf3 : ∃ f, fs[3]? = some f ∧ f.offset = 3 ∧ P.cellsOf f.type = 1 ∧ P.underlying f.type = some (.slice ti)) (hti : P.underlying ti = some (.int .i64)) (cti : P.cellsOf ti = 1)
    (h : DataW.Trod enc P w base (fun _ => true) held t (.slice a len cap) d ps) : ∃ z, IsDos w a len z := by
  obtain ⟨fuel, h⟩ := h
  rcases Deep.open_slice ht h with ⟨hcs, _⟩ | ⟨x, l, c, m, n, D, Pl, hcs, hb, hl, hm, hmm, _, hx⟩
  · simp [Value.cells] at hcs
    obtain ⟨rfl, rfl, rfl⟩ := hcs
    exact ⟨fun _ => ⟨fun _ => 0, none, 0, 0, []⟩, by omega, fun h => by omega, fun _ _ h => by omega, fun _ h => by omega⟩
  · simp [Value.cells] at hcs
    obtain ⟨rfl, rfl, rfl⟩ := hcs
    have hlm : len ≤ m := by rw [hmm]; split <;> omega
    have each : ∀ i, i < len → ∃ q : DoRow, (∀ j, j < 3 → w.cell? (x.add (i * 4 + j)) = some (.int .i64 (q.num j)) ∧ (Lit.int .i64 (q.num j)).wf = true) ∧ w.cell? (x.add (i * 4 + 3)) = some (.slice q.at_ q.len q.cap) ∧
        Row .i64 w q.at_ q.len q.row ∧ q.len ≤ q.cap ∧ q.cap ≤ 9223372036854775807 := by
      intro i hi
      obtain ⟨cs', h1, h2⟩ := hx i (by omega)
      rw [ce] at h1
      obtain ⟨_, hlen, hcell⟩ := World.cells?_some h1
      obtain ⟨xs, n', hn', hxy, _, hxl, hff⟩ := DataW.trod_struct he h2
      have part : ∀ j f, fs[j]? = some f → f.offset = j → P.cellsOf f.type = 1 → j < 4 → ∃ (hj : j < cs'.length) (hxs : j < xs.length), DataW.trod enc P w base (fun _ => true) held n' f.type [cs'[j]] = some xs[j] := by
        intro j f hf1 hf2 hf3 hj4
        have g := hff j f hf1
        rw [hf2, hf3] at g
        have hjl : j < cs'.length := by omega
        have hdt : (cs'.drop j).take 1 = [cs'[j]] := by rw [List.drop_eq_getElem_cons hjl]; rfl
        rw [hdt] at g
        have hxs : j < xs.length := by
          rw [hxl]
          rcases Nat.lt_or_ge j fs.size with h' | h'
          · exact h'
          · rw [Array.getElem?_eq_none h'] at hf1; cases hf1
        rw [List.getElem?_eq_getElem hxs] at g
        exact ⟨hjl, hxs, g⟩
      have ints : ∀ j, j < 3 → ∃ q : Int, w.cell? (x.add (i * 4 + j)) = some (.int .i64 q) ∧ (Lit.int .i64 q).wf = true := by
        intro j hj
        obtain ⟨f, hf1, hf2, hf3', hf4⟩ := hf j hj
        obtain ⟨hjl, hxs, g⟩ := part j f hf1 hf2 hf3' (by omega)
        obtain ⟨q, hq, _, hw⟩ := DataW.trod_int hf4 g
        have h3 := hcell j (by omega)
        rw [Deep.add_add] at h3
        refine ⟨q, ?_, hw⟩
        rw [h3, List.getElem?_eq_getElem hjl]
        simp only [List.cons.injEq, and_true] at hq
        rw [hq]
      obtain ⟨f, hf1, hf2, hf3', hf4⟩ := hf3
      obtain ⟨hjl, hxs, g⟩ := part 3 f hf1 hf2 hf3' (by omega)
      have h3 := hcell 3 (by omega)
      rw [Deep.add_add, List.getElem?_eq_getElem hjl] at h3
      obtain ⟨z0, w0⟩ := ints 0 (by omega)
      obtain ⟨z1, w1⟩ := ints 1 (by omega)
      obtain ⟨z2, w2⟩ := ints 2 (by omega)
      have hz : ∀ (ra : Option Addr) (rl rc : Nat) (rr : List Int), ∀ j, j < 3 → w.cell? (x.add (i * 4 + j)) = some (.int .i64 ((DoRow.mk (fun j => if j = 0 then z0 else if j = 1 then z1 else z2) ra rl rc rr).num j)) ∧ (Lit.int .i64 ((DoRow.mk (fun j => if j = 0 then z0 else if j = 1 then z1 else z2) ra rl rc rr).num j)).wf = true := fun _ _ _ _ j hj => by
        match j, hj with
        | 0, _ => exact w0
        | 1, _ => exact w1
        | 2, _ => exact w2
        | j + 3, hj => omega
      have hrow : ∃ (ra : Option Addr) (rl rc : Nat) (zs : List Int), cs'[3] = .slice ra rl rc ∧ IsRow .i64 w ra rl rc zs := by
        rcases ChangeShapes.open_ints hf4 hti cti g with ⟨hcs, _⟩ | ⟨a', len', cap', zs, hcs, hb', hl', hm', hz', hy, hc', hwz⟩
        · simp only [List.cons.injEq, and_true] at hcs
          exact ⟨none, 0, 0, [], hcs, .inl ⟨rfl, rfl, rfl, rfl⟩⟩
        · simp only [List.cons.injEq, and_true] at hcs
          exact ⟨some a', len', cap', zs, hcs, .inr ⟨a', rfl, hl', hm', by simpa using hz', hc', hwz⟩⟩
      obtain ⟨ra, rl, rc, zs, hrv, hr⟩ := hrow
      rw [hrv] at h3
      refine ⟨⟨fun j => if j = 0 then z0 else if j = 1 then z1 else z2, ra, rl, rc, zs.take rl⟩, hz _ _ _ _, h3, Row.of_isRow hr, ?_⟩
      rcases hr with ⟨_, h4, h5, _⟩ | ⟨_, _, h4, h5, _⟩
      · show rl ≤ rc ∧ rc ≤ _; omega
      · unfold maxLen at h5; show rl ≤ rc ∧ rc ≤ _; omega
    have hz : ∃ z : Nat → DoRow, ∀ i, i < len → (∀ j, j < 3 → w.cell? (x.add (i * 4 + j)) = some (.int .i64 ((z i).num j)) ∧ (Lit.int .i64 ((z i).num j)).wf = true) ∧ w.cell? (x.add (i * 4 + 3)) = some (.slice (z i).at_ (z i).len (z i).cap) ∧
        Row .i64 w (z i).at_ (z i).len (z i).row ∧ (z i).len ≤ (z i).cap ∧ (z i).cap ≤ 9223372036854775807 :=
      ⟨fun i => if hh : i < len then (each i hh).choose else ⟨fun _ => 0, none, 0, 0, []⟩, fun i hi => by
        have := (each i hi).choose_spec
        simpa [hi] using this⟩
    obtain ⟨z, hz⟩ := hz
    unfold maxLen at hm
    refine ⟨z, by omega, fun h0 => ?_, fun i j hi hj => i64_wf ((hz i hi).1 j hj).2, fun i hi => (hz i hi).2.2⟩
    obtain ⟨b, off, spot⟩ := x
    have h1 := ((hz 0 h0).1 0 (by omega)).1
    have hs : spot = none := by simpa [Addr.add] using World.cell?_spot h1
    subst hs
    refine ⟨b, off, rfl, by simpa [Addr.add] using World.block_lt_of_cell? w _ h1, fun i hi => ⟨fun j hj => ?_, ?_⟩⟩
    · have h2 := ((hz i hi).1 j hj).1; rw [Addr.add_lit] at h2; exact h2
    · have h2 := (hz i hi).2.1; rw [Addr.add_lit] at h2; exact h2
end Go.Proofs.YtkefbgkdkmkghaaDoor
