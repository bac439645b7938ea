/-
  Arrays and structs by value, in blocks that are known whole: loaded, stored, handed back. No program in sight but for the model's own.
-/
import Derived.Test.YtokminiendnhoaaDoorLib
import Derived.Deep.MidRow
import Derived.Deep.WholeRow
namespace Go.Proofs.YtokminiendnhoaaDoor
open Go.RowKit

/-- The list with other elements from a place on. -/
def splice {α : Type} (cs : List α) (o : Nat) (vs : List α) : List α := cs.take o ++ vs ++ cs.drop (o + vs.length)
theorem splice_whole {α : Type} (cs vs : List α) (h : vs.length = cs.length) : splice cs 0 vs = vs := by
  simp [splice, h]
theorem splice_length {α : Type} (cs : List α) (o : Nat) (vs : List α) (h : o + vs.length ≤ cs.length) : (splice cs o vs).length = cs.length := by
  simp [splice]; omega
theorem splice_cons {α : Type} (cs : List α) (o : Nat) (v : α) (vs : List α) (h : o + (vs.length + 1) ≤ cs.length) : splice (cs.set o v) (o + 1) vs = splice cs o (v :: vs) := by
  unfold splice
  apply List.ext_getElem?
  intro i
  simp only [List.getElem?_append, List.length_append, List.length_take, List.length_set, List.length_cons, List.getElem?_take, List.getElem?_drop, List.getElem?_set]
  have e1 : min (o + 1) cs.length = o + 1 := by omega
  have e2 : min o cs.length = o := by omega
  rw [e1, e2]
  by_cases h1 : i < o
  · simp [h1, show i < o + 1 by omega, show i < o + 1 + vs.length by omega, show i < o + (vs.length + 1) by omega, show ¬ o = i by omega]
  · by_cases h2 : i = o
    · subst h2
      simp [show i < cs.length by omega]
      intro hh
      omega
    · obtain ⟨d, rfl⟩ : ∃ d, i = o + 1 + d := ⟨i - (o + 1), by omega⟩
      by_cases h3 : d < vs.length
      · simp [show ¬ o + 1 + d < o + 1 by omega, show ¬ o + 1 + d < o by omega, show o + 1 + d < o + 1 + vs.length by omega, show o + 1 + d < o + (vs.length + 1) by omega, show o + 1 + d - (o + 1) = d by omega, show o + 1 + d - o = d + 1 by omega]
      · simp [show ¬ o + 1 + d < o + 1 + vs.length by omega, show ¬ o + 1 + d < o + (vs.length + 1) by omega, show o + 1 + vs.length + (o + 1 + d - (o + 1 + vs.length)) = o + (vs.length + 1) + (o + 1 + d - (o + (vs.length + 1))) by omega]
        intro hh
        omega

theorem Blk.setCells {g : Nat} {T : TypeId} : ∀ (vs : List Value) (o : Nat) {w : World} {cs : List Value}, Blk w g cs T → o + vs.length ≤ cs.length → Blk (w.setCells g o vs) g (splice cs o vs) T
  | [], o, w, cs, h, _ => by simpa [splice, World.setCells] using h
  | v :: r, o, w, cs, h, hl => by
    have h1 := h.set o v
    have h2 := Blk.setCells r (o + 1) h1 (by simp at hl ⊢; omega)
    rw [splice_cons cs o v r (by simpa using hl)] at h2
    exact h2
theorem Keeps.setCells {g : Nat} {a : World} : ∀ (vs : List Value) (o : Nat) {w : World}, Keeps (One g) a w → Keeps (One g) a (w.setCells g o vs)
  | [], _, _, h => h
  | v :: r, o, _, h => Keeps.setCells r (o + 1) (h.setOne o v)
theorem size_setCells (g : Nat) : ∀ (vs : List Value) (o : Nat) (w : World), (w.setCells g o vs).heap.size = w.heap.size
  | [], _, _ => rfl
  | v :: r, o, w => by rw [World.setCells, size_setCells g r (o + 1)]; simp
theorem Blk.rangeAt {w : World} {g : Nat} {cs : List Value} {T : TypeId} (h : Blk w g cs T) (o : Nat) {sub : List Value} (hs : ∀ j v, sub[j]? = some v → cs[o + j]? = some v) : w.rangeAt g o sub :=
  fun j v hv => h.cell (o + j) (hs j v hv)
theorem Blk.range0 {w : World} {g : Nat} {cs : List Value} {T : TypeId} (h : Blk w g cs T) : w.rangeAt g 0 cs := h.rangeAt 0 (fun j v hv => by simpa using hv)
theorem Blk.there {w : World} {g : Nat} {cs : List Value} {T : TypeId} (h : Blk w g cs T) {o n : Nat} (hl : o + n ≤ cs.length) : w.there g o n :=
  fun j hj => ⟨by rw [h.cell (o + j) (v := cs[o + j]'(by omega)) (by simp [show o + j < cs.length by omega])]; rfl, h.frozen _⟩

section
variable {P : Program} {ops : Array Oper} {rest : List Oper} {o : Oper} {a : Act} {w : World} {Q : Exit → Act → World → Prop}
/-- An operation whose guard says yes is carried out. -/
theorem wpList_go (hw : Region.wanted o (yielded ops a.tmps) = true) (h : ∀ K : Act → World → Prop, (∀ a w, wpList P ops Q rest a w → K a w) → o.wp P a w K Q) : wpList P ops Q (o :: rest) a w :=
  wpList_step fun K hK => by rw [if_pos hw]; exact h K hK
/-- A whole block's cells are loaded. -/
theorem wpl_load (hw : Region.wanted o (yielded ops a.tmps) = true) (ty : TypeId) (x : Operand) (ho : o.op = .load ty x) (g : Nat) (hx : a.eval x = .pointer (some ⟨g, 0, none⟩))
    {cs : List Value} {T : TypeId} (hb : Blk w g cs T) (d : TypeDesc) (hu : P.underlying ty = some d) (hd : d.isRow = true) (hi : (P.info? ty).map (·.size) = some cs.length)
    (h : wpList P ops Q rest (a.put o.dst (.agg cs.toArray)) w) : wpList P ops Q (o :: rest) a w :=
  wpList_go hw fun _ hK => wp_load_mid ty x ho g 0 hx cs d hb.range0 hu hd hi (hK _ _ h)
/-- Some of a block's cells are loaded. -/
theorem wpl_load_at (hw : Region.wanted o (yielded ops a.tmps) = true) (ty : TypeId) (x : Operand) (ho : o.op = .load ty x) (g off : Nat) (hx : a.eval x = .pointer (some ⟨g, off, none⟩))
    (cs : List Value) (hc : w.rangeAt g off cs) (d : TypeDesc) (hu : P.underlying ty = some d) (hd : d.isRow = true) (hi : (P.info? ty).map (·.size) = some cs.length)
    (h : wpList P ops Q rest (a.put o.dst (.agg cs.toArray)) w) : wpList P ops Q (o :: rest) a w :=
  wpList_go hw fun _ hK => wp_load_mid ty x ho g off hx cs d hc hu hd hi (hK _ _ h)
/-- A value of as many cells as a block has is stored into it. -/
theorem wpl_store (hw : Region.wanted o (yielded ops a.tmps) = true) (ty : TypeId) (x y : Operand) (ho : o.op = .store ty x y) (g : Nat) (hx : a.eval x = .pointer (some ⟨g, 0, none⟩))
    (vs : List Value) (hy : a.eval y = .agg vs.toArray) {cs : List Value} {T : TypeId} (hb : Blk w g cs T) (hl : vs.length = cs.length) (hi : (P.info? ty).map (·.size) = some vs.length) (h1 : ∀ v ∈ vs, v.oneCell' = true)
    (h : ∀ w', Blk w' g vs T → Keeps (One g) w w' → w'.heap.size = w.heap.size → wpList P ops Q rest (a.put o.dst undef) w') : wpList P ops Q (o :: rest) a w := by
  have hb' := hb.setCells vs 0 (by omega)
  rw [splice_whole cs vs hl] at hb'
  exact wpList_go hw fun _ hK => wp_store_mid ty x y ho g 0 vs.toArray hx hy (by simpa using hb.there (o := 0) (n := vs.length) (by omega)) (by simpa using hi) (all_oneCell_toArray h1)
    (hK _ _ (h _ hb' (Keeps.setCells vs 0 (Keeps.refl _ _)) (size_setCells g vs 0 w)))
/-- A value is stored into some of a block's cells. -/
theorem wpl_store_at (hw : Region.wanted o (yielded ops a.tmps) = true) (ty : TypeId) (x y : Operand) (ho : o.op = .store ty x y) (g off : Nat) (hx : a.eval x = .pointer (some ⟨g, off, none⟩))
    (vs : List Value) (hy : a.eval y = .agg vs.toArray) {cs : List Value} {T : TypeId} (hb : Blk w g cs T) (hl : off + vs.length ≤ cs.length) (hi : (P.info? ty).map (·.size) = some vs.length) (h1 : ∀ v ∈ vs, v.oneCell' = true)
    (h : ∀ w', Blk w' g (splice cs off vs) T → Keeps (One g) w w' → w'.heap.size = w.heap.size → wpList P ops Q rest (a.put o.dst undef) w') : wpList P ops Q (o :: rest) a w :=
  wpList_go hw fun _ hK => wp_store_mid ty x y ho g off vs.toArray hx hy (by simpa using hb.there (o := off) (n := vs.length) (by omega)) (by simpa using hi) (all_oneCell_toArray h1)
    (hK _ _ (h _ (hb.setCells vs off hl) (Keeps.setCells vs off (Keeps.refl _ _)) (size_setCells g vs off w)))
/-- The same store inside a region that draws its order. -/
theorem step_store {K : Act → World → Prop} {E : Prop} (hgd : o.guard = none) (ty : TypeId) (x y : Operand) (ho : o.op = .store ty x y) (g : Nat) (hx : a.eval x = .pointer (some ⟨g, 0, none⟩))
    (vs : List Value) (hy : a.eval y = .agg vs.toArray) {cs : List Value} {T : TypeId} (hb : Blk w g cs T) (hl : vs.length = cs.length) (hi : (P.info? ty).map (·.size) = some vs.length) (h1 : ∀ v ∈ vs, v.oneCell' = true)
    (h : ∀ w', Blk w' g vs T → Keeps (One g) w w' → w'.heap.size = w.heap.size → K (a.put o.dst undef) w') : if Region.wanted o (yielded ops a.tmps) = true then Oper.wp P o a w K Q else E := by
  have hw : Region.wanted o (yielded ops a.tmps) = true := by simp [Region.wanted, hgd]
  rw [if_pos hw]
  have hb' := hb.setCells vs 0 (by omega)
  rw [splice_whole cs vs hl] at hb'
  exact wp_store_mid ty x y ho g 0 vs.toArray hx hy (by simpa using hb.there (o := 0) (n := vs.length) (by omega)) (by simpa using hi) (all_oneCell_toArray h1) (h _ hb' (Keeps.setCells vs 0 (Keeps.refl _ _)) (size_setCells g vs 0 w))
end

/-- A struct or an array is handed back out of its block. -/
theorem ret_blk {P : Program} {fn : Func} {R : Ending → World → Prop} {a : Act} {w : World} {p : Tmp} {ty : TypeId} (h : fn.results = #[.cell p ty]) (g : Nat) (hp : a.tmps.getD p undef = .pointer (some ⟨g, 0, none⟩))
    {cs : List Value} {T : TypeId} (hb : Blk w g cs T) (d : TypeDesc) (hu : P.underlying ty = some d) (hd : d.isRow = true) (hi : (P.info? ty).map (·.size) = some cs.length) (hdf : a.defers = [])
    (hR : R (.returned (.agg cs.toArray)) w) : bodyPost P fn R .ret a w :=
  bodyPost_ret (results_cell_row h a.tmps w g T cs.toArray (0, 0) d hp hb hu (by cases d <;> first | rfl | cases hd) (by simpa using hi)) hdf hR
end Go.Proofs.YtokminiendnhoaaDoor
