/-
  Chapter 3's first examples; digests held against each other.
-/
import Derived.Test.YtmbdldnldcgdjaaDoorShaAll
namespace Go.Proofs.YtmbdldnldcgdjaaDoor
set_option linter.unusedSimpArgs false
set_option linter.unusedVariables false
open Go.RowKit

/-- A slice literal of one element inside a region that draws its order, where its guard says yes. -/
theorem step_bsOneW {P : Program} {ops : Array Oper} {o : Oper} {a : Act} {w : World} {K : Act → World → Prop} {Q : Exit → Act → World → Prop} {E : Prop} (hw : Region.wanted o (yielded ops a.tmps) = true) (t e : TypeId) (parts : Array (Nat × Operand)) (ho : o.op = .buildSlice t 1 parts)
    (v : Value) (hv : v.cells = #[v]) (hu : P.underlying t = some (.slice e)) (hi : (P.info? e).map (fun i => (i.zero.map (·.cells.size), i.size)) = some (some 1, 1))
    (hparts : (parts.map fun (i, x) => (i, a.eval x)).toList = [(0, v)])
    (h : K (a.put o.dst (.slice (some ⟨w.heap.size, 0, none⟩) 1 1)) (w.alloc (.cells [v].toArray e))) : if Region.wanted o (yielded ops a.tmps) = true then Oper.wp P o a w K Q else E := by
  rw [if_pos hw]
  obtain ⟨ie, hie, hs⟩ := Option.map_eq_some_iff.1 hi
  simp only [Prod.mk.injEq] at hs
  obtain ⟨hz, hs1⟩ := hs
  obtain ⟨z, hz1, hz2⟩ := Option.map_eq_some_iff.1 hz
  refine wp_buildSlice t e 1 parts ho [v].toArray ie z hu hie hz1 (by rw [hs1]; omega) (by rw [hs1]; omega) ?_ h
  rw [hparts, hs1]
  have := Great.fill_whole (s := 1) (by omega) [v] ((Array.range (1 * 1)).map (z.cells[· % z.cells.size]!)) (by intro x hx; simp at hx; rw [hx, hv]; rfl) (by simp)
  simp only [List.zipIdx_cons, List.zipIdx_nil, List.map_cons, List.map_nil, List.flatMap_cons, List.flatMap_nil, List.append_nil, hv] at this
  simpa using this

def TrueS (w : World) (e : Ending) (w' : World) : Prop := e = .returned (.bool true) ∧ Keeps Nil w w'
theorem digest_nil : (digest []).getD 0 0 = 227 ∧ (digest []).getD 1 0 = 176 ∧ (digest []).getD 31 0 = 85 := by decide +kernel
theorem byteV_at (l : List Int) (i : Nat) (h : i < l.length) {x : Int} (hx : l.getD i 0 = x) : (byteV l)[i]? = some (.int .u8 x) := by
  subst hx; simp [byteV, List.getD, h]
theorem Tryd.sizeU8S (w : World) : (sizeOf 5).run Tryd.prog w = .ok 1 w := by kernel_rfl
theorem Tryd.eqlDig {l r : List Int} (hl : l.length = 32) (hr : r.length = 32) (bl : AreB l) (br : AreB r) (w : World) : (binOp .eql 26 (.agg (byteV l).toArray) (.agg (byteV r).toArray)).run Tryd.prog w = .ok (.bool (l == r)) w :=
  eqlKey 26 5 32 Tryd.undH Tryd.underlying5 Tryd.sizeU8S hl hr bl br w
theorem Tryd.eqlDigSame (l : List Int) (w : World) : (binOp .eql 26 (.agg (byteV (digest l)).toArray) (.agg (byteV (digest l)).toArray)).run Tryd.prog w = .ok (.bool true) w := by
  rw [Tryd.eqlDig (digest_len l) (digest_len l) (digest_bytes l) (digest_bytes l)]; simp
theorem Tryd.neqDig {l r : List Int} (hl : l.length = 32) (hr : r.length = 32) (bl : AreB l) (br : AreB r) (w : World) : (binOp .neq 26 (.agg (byteV l).toArray) (.agg (byteV r).toArray)).run Tryd.prog w = .ok (.bool (l != r)) w :=
  neqKey 26 5 32 Tryd.undH Tryd.underlying5 Tryd.sizeU8S hl hr bl br w
end Go.Proofs.YtmbdldnldcgdjaaDoor
