/-
  The tables of strconv, out of what a row lists.
-/
import Derived.Test.YtmlfekcnpmlfkaaDoorFlOrd
import Derived.Test.YtmlfekcnpmlfkaaDoorRows
import Derived.MakeChecks
import Derived.Lib.LaidU8
import Derived.Lay
import Derived.Deep.DeepHandedRow
namespace Go.Proofs.YtmlfekcnpmlfkaaDoor
set_option linter.unusedSimpArgs false
set_option linter.unusedVariables false
open Go.RowKit

theorem pow_len : Go.Pinned.pow10Rows.length = 696 := by kernel_rfl
theorem tabs_of_laid {l : List (String × DataW Unit)} {W : World} (h : laidMetH Tryd.prog l W) (hp : l.all (fun x => x.2.handleName?.isNone) = true)
    (hm1 : ("internal/strconv.pow10Tab", Rows.laid_internal_strconv_pow10Tab) ∈ l) (hm2 : ("internal/strconv.uint64pow10", Rows.laid_internal_strconv_uint64pow10) ∈ l) : Tabs W := by
  rw [MakeChecks.laidMetH_plain _ _ _ hp] at h
  have h1 := Lib.laidMet.reads h hm1
  have h2 := Lib.laidMet.reads h hm2
  refine ⟨fun i hi => ?_, fun i hi => ?_⟩
  · obtain ⟨g, t, cs, fuel, p, hg, hty, hv, hd⟩ := h1
    obtain rfl := Option.some.inj ((show Tryd.prog.globalNamed "internal/strconv.pow10Tab" = some 3 by kernel_rfl).symm.trans hg)
    obtain rfl := Option.some.inj ((show (Tryd.prog.globals[3]?).map (·.type) = some 98 by kernel_rfl).symm.trans hty)
    obtain ⟨f2, d, q, hds, hd2⟩ := Lib.array_elem Tryd.underlying98 hd i hi
    have hlt : i < Go.Pinned.pow10Rows.length := by rw [pow_len]; exact hi
    rw [List.getElem?_map, List.getElem?_eq_getElem hlt, Option.map_some] at hds
    obtain rfl := Option.some.inj hds
    rw [show Tryd.prog.cellsOf 97 = 2 by kernel_rfl] at hd2
    have hx := Lib.ints_of_struct (k := .u64) (zs := [((Go.Pinned.pow10Rows[i]).1 : Int), ((Go.Pinned.pow10Rows[i]).2 : Int)]) Tryd.underlying97 (fun j f hf => by
      match j, hf with
      | 0, hf => cases hf; exact ⟨Tryd.underlying22, rfl, by kernel_rfl⟩
      | 1, hf => cases hf; exact ⟨Tryd.underlying22, rfl, by kernel_rfl⟩
      | j + 2, hf => simp at hf) (by kernel_rfl) hd2
    have e1 : powHi i = (Go.Pinned.pow10Rows[i]).1 := by unfold powHi; rw [List.getD, List.getElem?_eq_getElem hlt]; rfl
    have e2 : powLo i = (Go.Pinned.pow10Rows[i]).2 := by unfold powLo; rw [List.getD, List.getElem?_eq_getElem hlt]; rfl
    have c1 := congrArg (·[0]?) hx
    have c2 := congrArg (·[1]?) hx
    simp only [List.getElem?_take, List.getElem?_drop, List.map_cons, List.map_nil] at c1 c2
    refine ⟨?_, ?_⟩
    · rw [World.var?_cell hg hv, e1]; simpa using c1
    · rw [World.var?_cell hg hv, e2]; simpa using c2
  · obtain ⟨g, t, cs, fuel, p, hg, hty, hv, hd⟩ := h2
    obtain rfl := Option.some.inj ((show Tryd.prog.globalNamed "internal/strconv.uint64pow10" = some 2 by kernel_rfl).symm.trans hg)
    obtain rfl := Option.some.inj ((show (Tryd.prog.globals[2]?).map (·.type) = some 88 by kernel_rfl).symm.trans hty)
    obtain ⟨f2, d, q, hds, hd2⟩ := Lib.array_elem Tryd.underlying88 hd i hi
    rw [show Tryd.prog.cellsOf 22 = 1 by kernel_rfl] at hd2
    obtain ⟨z, hz, hzd, _⟩ := DataW.trod_int Tryd.underlying22 hd2
    have hz2 : z = ((10 ^ i : Nat) : Int) := by
      have e := (Prod.mk.inj hzd).1
      rw [e] at hds
      have hall : ∀ j, j < 20 → ∀ y : Int, ([.lit (.int .u64 1), .lit (.int .u64 10), .lit (.int .u64 100), .lit (.int .u64 1000), .lit (.int .u64 10000), .lit (.int .u64 100000), .lit (.int .u64 1000000), .lit (.int .u64 10000000), .lit (.int .u64 100000000), .lit (.int .u64 1000000000), .lit (.int .u64 10000000000), .lit (.int .u64 100000000000), .lit (.int .u64 1000000000000), .lit (.int .u64 10000000000000), .lit (.int .u64 100000000000000), .lit (.int .u64 1000000000000000), .lit (.int .u64 10000000000000000), .lit (.int .u64 100000000000000000), .lit (.int .u64 1000000000000000000), .lit (.int .u64 10000000000000000000)] : List (DataW Unit))[j]? = some (.lit (.int .u64 y)) → y = ((10 ^ j : Nat) : Int) := by
        intro j hj y hy
        match j, hj with
        | 0, _ | 1, _ | 2, _ | 3, _ | 4, _ | 5, _ | 6, _ | 7, _ | 8, _ | 9, _ | 10, _ | 11, _ | 12, _ | 13, _ | 14, _ | 15, _ | 16, _ | 17, _ | 18, _ | 19, _ => cases hy; rfl
        | j + 20, h => omega
      exact hall i hi z hds
    have c1 := congrArg (·[0]?) hz
    simp only [List.getElem?_take, List.getElem?_drop] at c1
    rw [World.var?_cell hg hv, ← hz2]
    simpa using c1
/-- There is an input that fits, at a world that is written out; its shape by a law of its own. -/
theorem witness_row_zip {H : Type} {enc : TypeId × Value → H} {C : Checked} {os : Os} {f : FuncId} {fn : Func} {s : OpenSpec} {conds : List PathCond} {apart : Bool} {laid : List (String × DataW Unit)} (modest : Bool) (w0 : World) (args : Array Value) (hos : w0.os = os)
    (hsh : (w0.forCall (fun _ _ => 0) ⟨#[], args, []⟩).Shaped C.prog)
    (hok : Input.okWideB C.prog (w0.forCall (fun _ _ => 0) ⟨#[], args, []⟩) f ⟨#[], args, []⟩ = true)
    (hrow : s.preRow enc C.prog fn conds apart laid (w0.forCall (fun _ _ => 0) ⟨#[], args, []⟩).memory args) :
    ∃ (w : World) (tape : Tape) (i : Input), w.os = os ∧ (w.forCall tape i).Shaped C.prog ∧ i.vars = [] ∧ Input.okWide C.prog (w.forCall tape i) .any w.heap.size f i ∧
      s.preRow enc C.prog fn conds apart laid (w.forCall tape i).memory i.args ∧ ({ modest := modest } : Assume).holds C.prog (lone (Frame.enter C.prog f i.args .normal) [] (w.forCall tape i)) :=
  ⟨w0, fun _ _ => 0, ⟨#[], args, []⟩, hos, hsh, (Input.okWide_of_okWideB (base := 0) hok).1, (Input.okWide_of_okWideB hok).2, hrow, by
    simp only [Assume.holds]
    exact ⟨by simp, by simp, fun _ => Modest.zero, by simp, by simp⟩⟩
end Go.Proofs.YtmlfekcnpmlfkaaDoor
