/-
  A region that draws its order, of reads with a forced tail: loads of arrays and structs among the reads. No program in sight but for the model's own.
-/
import Derived.Test.YtmbdldnldcgdjaaDoorAgg
import Derived.StillTailTactics
namespace Go.Proofs.YtmbdldnldcgdjaaDoor
set_option linter.unusedSimpArgs false
set_option linter.unusedVariables false
open Go.RowKit

/-- A load of many cells among the reads. -/
theorem st_load {P : Program} {ops : Array Oper} {w : World} {Q : Act → Prop} {o : Oper} {rest : List Oper} {a : Act} (hw : Region.wanted o (yielded ops a.tmps) = true) (ty : TypeId) (x : Operand) (ho : o.op = .load ty x) (g off : Nat) (hx : a.eval x = .pointer (some ⟨g, off, none⟩))
    (cs : List Value) (hc : w.rangeAt g off cs) (d : TypeDesc) (hu : P.underlying ty = some d) (hd : d.isRow = true) (hi : (P.info? ty).map (·.size) = some cs.length)
    (h : wpStill P ops w Q rest (a.put o.dst (.agg cs.toArray))) : wpStill P ops w Q (o :: rest) a :=
  wpStill_step fun K hK => by
    rw [if_pos hw]
    unfold Oper.still execOp
    simp only [ho, hx, Instr.loadAt, Instr.sureAddr, Sem.run_bind, Sem.run_pure, Result.andThen_ok, run_loadVar_mid w g off ty cs d hc hu hd hi, Oper.stillUpon]
    first | exact ⟨rfl, hK _ h⟩ | exact ⟨trivial, hK _ h⟩
/-- A struct or an array built by value among the reads. -/
theorem st_build {P : Program} {ops : Array Oper} {w : World} {Q : Act → Prop} {o : Oper} {rest : List Oper} {a : Act} (hw : Region.wanted o (yielded ops a.tmps) = true) (t : TypeId) (parts : Array (Nat × Operand)) (ho : o.op = .build t parts) (cells : List Value) (ps : List (Nat × Value)) (hb : P.built t ps = some cells.toArray) (hp : (parts.map fun (i, x) => (i, a.eval x)).toList = ps)
    (h : wpStill P ops w Q rest (a.put o.dst (.agg cells.toArray))) : wpStill P ops w Q (o :: rest) a :=
  wpStill_step fun K hK => by
    rw [if_pos hw]
    unfold Oper.still execOp
    subst hp
    simp only [ho, Sem.run_bind, run_build w t _ cells.toArray hb, Result.andThen_ok, Oper.stillUpon]
    first | exact ⟨rfl, hK _ h⟩ | exact ⟨trivial, hK _ h⟩
end Go.Proofs.YtmbdldnldcgdjaaDoor
