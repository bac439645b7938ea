/-
  Arrays and structs by value, in blocks that are known whole: loaded, stored, handed back. No program in sight but for the model's own.
-/
import Derived.Test.YtmlfekcnpmlfkaaDoorLib
import Derived.Deep.MidRow
import Derived.Deep.WholeRow
import Derived.Great.FillDense
import Derived.Great.BuildSlice
import Derived.Laws.Tables
namespace Go.Proofs.YtmlfekcnpmlfkaaDoor
set_option linter.unusedSimpArgs false
set_option linter.unusedVariables false
open Go.RowKit

/-- The list with other elements from a place on. -/
def splice {α : Type} (cs : List α) (o : Nat) (vs : List α) : List α := cs.take o ++ vs ++ cs.drop (o + vs.length)
theorem splice_whole {α : Type} (cs vs : List α) (h : vs.length = cs.length) : splice cs 0 vs = vs := by
  simp [splice, h]
theorem splice_length {α : Type} (cs : List α) (o : Nat) (vs : List α) (h : o + vs.length ≤ cs.length) : (splice cs o vs).length = cs.length := by
  simp [splice]; omega
theorem splice_cons {α : Type} (cs : List α) (o : Nat) (v : α) (vs : List α) (h : o + (vs.length + 1) ≤ cs.length) : splice (cs.set o v) (o + 1) vs = splice cs o (v :: vs) := by
  unfold splice
  apply List.ext_getElem?
  intro i
  simp only [List.getElem?_append, List.length_append, List.length_take, List.length_set, List.length_cons, List.getElem?_take, List.getElem?_drop, List.getElem?_set]
  have e1 : min (o + 1) cs.length = o + 1 := by omega
  have e2 : min o cs.length = o := by omega
  rw [e1, e2]
  by_cases h1 : i < o
  · simp [h1, show i < o + 1 by omega, show i < o + 1 + vs.length by omega, show i < o + (vs.length + 1) by omega, show ¬ o = i by omega]
  · by_cases h2 : i = o
    · subst h2
      simp [show i < cs.length by omega]
      intro hh
      omega
    · obtain ⟨d, rfl⟩ : ∃ d, i = o + 1 + d := ⟨i - (o + 1), by omega⟩
      by_cases h3 : d < vs.length
      · simp [show ¬ o + 1 + d < o + 1 by omega, show ¬ o + 1 + d < o by omega, show o + 1 + d < o + 1 + vs.length by omega, show o + 1 + d < o + (vs.length + 1) by omega, show o + 1 + d - (o + 1) = d by omega, show o + 1 + d - o = d + 1 by omega]
      · simp [show ¬ o + 1 + d < o + 1 + vs.length by omega, show ¬ o + 1 + d < o + (vs.length + 1) by omega, show o + 1 + vs.length + (o + 1 + d - (o + 1 + vs.length)) = o + (vs.length + 1) + (o + 1 + d - (o + (vs.length + 1))) by omega]
        intro hh
        omega

theorem Blk.setCells {g : Nat} {T : TypeId} : ∀ (vs : List Value) (o : Nat) {w : World} {cs : List Value}, Blk w g cs T → o + vs.length ≤ cs.length → Blk (w.setCells g o vs) g (splice cs o vs) T
  | [], o, w, cs, h, _ => by simpa [splice, World.setCells] using h
  | v :: r, o, w, cs, h, hl => by
    have h1 := h.set o v
    have h2 := Blk.setCells r (o + 1) h1 (by simp at hl ⊢; omega)
    rw [splice_cons cs o v r (by simpa using hl)] at h2
    exact h2
theorem Keeps.setCells {g : Nat} {a : World} : ∀ (vs : List Value) (o : Nat) {w : World}, Keeps (One g) a w → Keeps (One g) a (w.setCells g o vs)
  | [], _, _, h => h
  | v :: r, o, _, h => Keeps.setCells r (o + 1) (h.setOne o v)
theorem size_setCells (g : Nat) : ∀ (vs : List Value) (o : Nat) (w : World), (w.setCells g o vs).heap.size = w.heap.size
  | [], _, _ => rfl
  | v :: r, o, w => by rw [World.setCells, size_setCells g r (o + 1)]; simp
theorem Blk.rangeAt {w : World} {g : Nat} {cs : List Value} {T : TypeId} (h : Blk w g cs T) (o : Nat) {sub : List Value} (hs : ∀ j v, sub[j]? = some v → cs[o + j]? = some v) : w.rangeAt g o sub :=
  fun j v hv => h.cell (o + j) (hs j v hv)
theorem Blk.range0 {w : World} {g : Nat} {cs : List Value} {T : TypeId} (h : Blk w g cs T) : w.rangeAt g 0 cs := h.rangeAt 0 (fun j v hv => by simpa using hv)
theorem Blk.there {w : World} {g : Nat} {cs : List Value} {T : TypeId} (h : Blk w g cs T) {o n : Nat} (hl : o + n ≤ cs.length) : w.there g o n :=
  fun j hj => ⟨by rw [h.cell (o + j) (v := cs[o + j]'(by omega)) (by simp [show o + j < cs.length by omega])]; rfl, h.frozen _⟩

section
variable {P : Program} {ops : Array Oper} {rest : List Oper} {o : Oper} {a : Act} {w : World} {Q : Exit → Act → World → Prop}
/-- An operation whose guard says yes is carried out. -/
theorem wpList_go (hw : Region.wanted o (yielded ops a.tmps) = true) (h : ∀ K : Act → World → Prop, (∀ a w, wpList P ops Q rest a w → K a w) → o.wp P a w K Q) : wpList P ops Q (o :: rest) a w :=
  wpList_step fun K hK => by rw [if_pos hw]; exact h K hK
/-- A whole block's cells are loaded. -/
theorem wpl_load (hw : Region.wanted o (yielded ops a.tmps) = true) (ty : TypeId) (x : Operand) (ho : o.op = .load ty x) (g : Nat) (hx : a.eval x = .pointer (some ⟨g, 0, none⟩))
    {cs : List Value} {T : TypeId} (hb : Blk w g cs T) (d : TypeDesc) (hu : P.underlying ty = some d) (hd : d.isRow = true) (hi : (P.info? ty).map (·.size) = some cs.length)
    (h : wpList P ops Q rest (a.put o.dst (.agg cs.toArray)) w) : wpList P ops Q (o :: rest) a w :=
  wpList_go hw fun _ hK => wp_load_mid ty x ho g 0 hx cs d hb.range0 hu hd hi (hK _ _ h)
/-- Some of a block's cells are loaded. -/
theorem wpl_load_at (hw : Region.wanted o (yielded ops a.tmps) = true) (ty : TypeId) (x : Operand) (ho : o.op = .load ty x) (g off : Nat) (hx : a.eval x = .pointer (some ⟨g, off, none⟩))
    (cs : List Value) (hc : w.rangeAt g off cs) (d : TypeDesc) (hu : P.underlying ty = some d) (hd : d.isRow = true) (hi : (P.info? ty).map (·.size) = some cs.length)
    (h : wpList P ops Q rest (a.put o.dst (.agg cs.toArray)) w) : wpList P ops Q (o :: rest) a w :=
  wpList_go hw fun _ hK => wp_load_mid ty x ho g off hx cs d hc hu hd hi (hK _ _ h)
/-- A value of as many cells as a block has is stored into it. -/
theorem wpl_store (hw : Region.wanted o (yielded ops a.tmps) = true) (ty : TypeId) (x y : Operand) (ho : o.op = .store ty x y) (g : Nat) (hx : a.eval x = .pointer (some ⟨g, 0, none⟩))
    (vs : List Value) (hy : a.eval y = .agg vs.toArray) {cs : List Value} {T : TypeId} (hb : Blk w g cs T) (hl : vs.length = cs.length) (hi : (P.info? ty).map (·.size) = some vs.length) (h1 : ∀ v ∈ vs, v.oneCell' = true)
    (h : ∀ w', Blk w' g vs T → Keeps (One g) w w' → w'.heap.size = w.heap.size → wpList P ops Q rest (a.put o.dst undef) w') : wpList P ops Q (o :: rest) a w := by
  have hb' := hb.setCells vs 0 (by omega)
  rw [splice_whole cs vs hl] at hb'
  exact wpList_go hw fun _ hK => wp_store_mid ty x y ho g 0 vs.toArray hx hy (by simpa using hb.there (o := 0) (n := vs.length) (by omega)) (by simpa using hi) (all_oneCell_toArray h1)
    (hK _ _ (h _ hb' (Keeps.setCells vs 0 (Keeps.refl _ _)) (size_setCells g vs 0 w)))
/-- A value is stored into some of a block's cells. -/
theorem wpl_store_at (hw : Region.wanted o (yielded ops a.tmps) = true) (ty : TypeId) (x y : Operand) (ho : o.op = .store ty x y) (g off : Nat) (hx : a.eval x = .pointer (some ⟨g, off, none⟩))
    (vs : List Value) (hy : a.eval y = .agg vs.toArray) {cs : List Value} {T : TypeId} (hb : Blk w g cs T) (hl : off + vs.length ≤ cs.length) (hi : (P.info? ty).map (·.size) = some vs.length) (h1 : ∀ v ∈ vs, v.oneCell' = true)
    (h : ∀ w', Blk w' g (splice cs off vs) T → Keeps (One g) w w' → w'.heap.size = w.heap.size → wpList P ops Q rest (a.put o.dst undef) w') : wpList P ops Q (o :: rest) a w :=
  wpList_go hw fun _ hK => wp_store_mid ty x y ho g off vs.toArray hx hy (by simpa using hb.there (o := off) (n := vs.length) (by omega)) (by simpa using hi) (all_oneCell_toArray h1)
    (hK _ _ (h _ (hb.setCells vs off hl) (Keeps.setCells vs off (Keeps.refl _ _)) (size_setCells g vs off w)))
/-- The same store inside a region that draws its order. -/
theorem step_store {K : Act → World → Prop} {E : Prop} (hgd : o.guard = none) (ty : TypeId) (x y : Operand) (ho : o.op = .store ty x y) (g : Nat) (hx : a.eval x = .pointer (some ⟨g, 0, none⟩))
    (vs : List Value) (hy : a.eval y = .agg vs.toArray) {cs : List Value} {T : TypeId} (hb : Blk w g cs T) (hl : vs.length = cs.length) (hi : (P.info? ty).map (·.size) = some vs.length) (h1 : ∀ v ∈ vs, v.oneCell' = true)
    (h : ∀ w', Blk w' g vs T → Keeps (One g) w w' → w'.heap.size = w.heap.size → K (a.put o.dst undef) w') : if Region.wanted o (yielded ops a.tmps) = true then Oper.wp P o a w K Q else E := by
  have hw : Region.wanted o (yielded ops a.tmps) = true := by simp [Region.wanted, hgd]
  rw [if_pos hw]
  have hb' := hb.setCells vs 0 (by omega)
  rw [splice_whole cs vs hl] at hb'
  exact wp_store_mid ty x y ho g 0 vs.toArray hx hy (by simpa using hb.there (o := 0) (n := vs.length) (by omega)) (by simpa using hi) (all_oneCell_toArray h1) (h _ hb' (Keeps.setCells vs 0 (Keeps.refl _ _)) (size_setCells g vs 0 w))
end

/-- A struct or an array is handed back out of its block. -/
theorem ret_blk {P : Program} {fn : Func} {R : Ending → World → Prop} {a : Act} {w : World} {p : Tmp} {ty : TypeId} (h : fn.results = #[.cell p ty]) (g : Nat) (hp : a.tmps.getD p undef = .pointer (some ⟨g, 0, none⟩))
    {cs : List Value} {T : TypeId} (hb : Blk w g cs T) (d : TypeDesc) (hu : P.underlying ty = some d) (hd : d.isRow = true) (hi : (P.info? ty).map (·.size) = some cs.length) (hdf : a.defers = [])
    (hR : R (.returned (.agg cs.toArray)) w) : bodyPost P fn R .ret a w :=
  bodyPost_ret (results_cell_row h a.tmps w g T cs.toArray (0, 0) d hp hb hu (by cases d <;> first | rfl | cases hd) (by simpa using hi)) hdf hR

/-- One part goes in. -/
theorem fill_step {place : Nat → Option (Nat × Nat)} {cs : List Value} {i : Nat} {v : Value} {vs : List Value} {off size : Nat} {rest : List (Nat × Value)} (hp : place i = some (off, size)) (hv : v.cells = vs.toArray) (hs : vs.length = size) (hl : off + size ≤ cs.length) :
    Instr.fill place cs.toArray ((i, v) :: rest) = Instr.fill place (splice cs off vs).toArray rest := by
  have hfold : (v.cells.zipIdx.foldl (fun cs (x : Value × Nat) => cs.setIfInBounds (off + x.2) x.1) cs.toArray) = (splice cs off vs).toArray := by
    rw [hv]
    have e : (vs.toArray.zipIdx.foldl (fun cs (x : Value × Nat) => cs.setIfInBounds (off + x.2) x.1) cs.toArray) = ((vs.zipIdx 0).foldl (fun cs (x : Value × Nat) => cs.setIfInBounds (off + x.2) x.1) cs.toArray) := by simp
    rw [e]
    apply Array.ext_getElem?
    intro k
    rw [(Great.foldl_set off vs 0 cs.toArray).2 k]
    simp only [splice, List.getElem?_toArray, List.size_toArray, Nat.add_zero]
    by_cases h1 : k < off
    · rw [if_neg (by omega), List.append_assoc, List.getElem?_append_left (by simp; omega)]
      simp [h1]
    · by_cases h2 : k < off + vs.length
      · rw [if_pos (by omega), List.append_assoc, List.getElem?_append_right (by simp; omega), List.getElem?_append_left (by simp; omega)]
        simp
        rw [Nat.min_eq_left (by omega)]
      · rw [if_neg (by omega), List.getElem?_append_right (by simp; omega)]
        simp
        congr 1
        omega
  rw [Instr.fill, hp]
  simp only
  rw [if_neg (by rw [hv]; simp; omega), hfold]
theorem built_struct {P : Program} {t : TypeId} {z : Value} {zc : List Value} {fs : Array Field} {places : List (Nat × Nat)} (hi : (P.info? t).bind (·.zero) = some z) (hz : z.cells = zc.toArray) (hu : P.underlying t = some (.struct fs))
    (hp : fs.toList.mapM (fun f => (P.info? f.type).map fun i => (f.offset, i.size)) = some places) (parts : List (Nat × Value)) : P.built t parts = Instr.fill (places.toArray[·]?) zc.toArray parts := by
  obtain ⟨it, h1, h2⟩ := Option.bind_eq_some_iff.1 hi
  unfold Program.built
  rw [h1, hu]
  simp only [h2, hp, hz]
section
variable {P : Program} {ops : Array Oper} {rest : List Oper} {o : Oper} {a : Act} {w : World} {Q : Exit → Act → World → Prop}
/-- A struct or an array is built by value. -/
theorem wpl_build (hw : Region.wanted o (yielded ops a.tmps) = true) (t : TypeId) (parts : Array (Nat × Operand)) (ho : o.op = .build t parts) (cells : List Value) (ps : List (Nat × Value)) (hb : P.built t ps = some cells.toArray) (hp : (parts.map fun (i, x) => (i, a.eval x)).toList = ps)
    (h : wpList P ops Q rest (a.put o.dst (.agg cells.toArray)) w) : wpList P ops Q (o :: rest) a w :=
  wpList_go hw fun _ hK => by
    unfold Oper.wp execOp
    subst hp
    simp only [ho, Sem.run_bind, run_build w t _ cells.toArray hb, Result.andThen_ok]
    exact hK _ _ h
end
/-- The same out of one constant. -/
theorem wpl_buildC {P : Program} {ops : Array Oper} {rest : List Oper} {o : Oper} {a : Act} {w : World} {Q : Exit → Act → World → Prop} (hw : Region.wanted o (yielded ops a.tmps) = true) (t : TypeId) (i : Nat) (v : Value) (ho : o.op = .build t #[(i, .const v)]) (cells : List Value) (hb : P.built t [(i, v)] = some cells.toArray)
    (h : wpList P ops Q rest (a.put o.dst (.agg cells.toArray)) w) : wpList P ops Q (o :: rest) a w :=
  wpl_build hw t _ ho cells [(i, v)] hb (by simp [Act.eval]) h
/-- A struct or an array out of its block, and another result beside it. -/
theorem ret_blk_tmp {P : Program} {fn : Func} {R : Ending → World → Prop} {a : Act} {w : World} {p u : Tmp} {ty : TypeId} (h : fn.results = #[.cell p ty, .tmp u]) (g : Nat) (hp : a.tmps.getD p undef = .pointer (some ⟨g, 0, none⟩))
    {cs : List Value} {T : TypeId} (hb : Blk w g cs T) (d : TypeDesc) (hu : P.underlying ty = some d) (hd : d.isRow = true) (hi : (P.info? ty).map (·.size) = some cs.length) {x : Value} (hx : a.tmps.getD u undef = x) (hdf : a.defers = [])
    (hR : R (.returned (.tuple #[.agg cs.toArray, x])) w) : bodyPost P fn R .ret a w := by
  have hp' : a.tmps[p]?.getD undef = .pointer (some ⟨g, 0, none⟩) := by simpa using hp
  have hx' : a.tmps[u]?.getD undef = x := by simpa using hx
  refine bodyPost_ret (v := .tuple #[.agg cs.toArray, x]) ?_ hdf hR
  simp [results, h, hp', hx', asAddr, run_loadVar_row w g T ty cs.toArray (0, 0) d hb hu (by cases d <;> first | rfl | cases hd) (by simpa using hi)]
/-- A slice literal of one element of many cells. -/
theorem wpl_bsOne {P : Program} {ops : Array Oper} {rest : List Oper} {o : Oper} {a : Act} {w : World} {Q : Exit → Act → World → Prop} (hg : o.guard = none) (t e : TypeId) (parts : Array (Nat × Operand)) (ho : o.op = .buildSlice t 1 parts)
    (vs : List Value) (v : Value) (hv : v.cells = vs.toArray) (size : Nat) (hu : P.underlying t = some (.slice e)) (hi : (P.info? e).map (fun i => (i.zero.map (·.cells.size), i.size)) = some (some size, size)) (hpos : 0 < size) (hsm : size ≤ 2 ^ 24) (hlen : vs.length = size)
    (hparts : (parts.map fun (i, x) => (i, a.eval x)).toList = [(0, v)])
    (h : wpList P ops Q rest (a.put o.dst (.slice (some ⟨w.heap.size, 0, none⟩) 1 1)) (w.alloc (.cells vs.toArray e))) : wpList P ops Q (o :: rest) a w := by
  obtain ⟨ie, hie, hs⟩ := Option.map_eq_some_iff.1 hi
  simp only [Prod.mk.injEq] at hs
  obtain ⟨hz, hs1⟩ := hs
  obtain ⟨z, hz1, hz2⟩ := Option.map_eq_some_iff.1 hz
  refine wpList_buildSlice hg t e 1 parts ho vs.toArray ie z hu hie hz1 (by rw [hs1]; omega) (by rw [hs1]; omega) ?_ h
  rw [hparts, hs1]
  have := Great.fill_whole (s := size) hpos [v] ((Array.range (1 * size)).map (z.cells[· % z.cells.size]!)) (by intro x hx; simp at hx; rw [hx, hv]; simpa using hlen) (by simp)
  simp only [List.zipIdx_cons, List.zipIdx_nil, List.map_cons, List.map_nil, List.flatMap_cons, List.flatMap_nil, List.append_nil, hv] at this
  simpa using this
end Go.Proofs.YtmlfekcnpmlfkaaDoor
