/-
  A key or a digest by value: what an argument of such a type holds.
-/
import Derived.Test.YtmbdldnldcgdjaaDoorKeys
import Derived.OpenShut
import Derived.WideShapes
namespace Go.Proofs.YtmbdldnldcgdjaaDoor
set_option linter.unusedSimpArgs false
set_option linter.unusedVariables false
open Go.RowKit Go.ChangeShapes Go.WideShapes

theorem okWide_array32 {P : Program} {w : World} {r : Reach} {base n : Nat} {t e : TypeId} {v : Value} (ht : P.underlying t = some (.array n e)) (h : Value.okWide P w r base t v) : ∃ cs, v = .agg cs ∧ cs.size = P.cellsOf t := by
  simp only [Value.okWide, ht] at h
  obtain ⟨cs, h1, h2, _⟩ := h
  exact ⟨cs, h1, h2⟩
theorem IsKey.openK {H : Type} {enc : TypeId × Value → H} {P : Program} {w : World} {base b0 : Nat} {r : Reach} {spare : Nat → Bool} {held : Bool} {tk tb : TypeId} {v : Value} {d : DataW H} {ps : List MemPlace}
    (hk : P.underlying tk = some (.array 32 tb)) (hC : P.cellsOf tk = 32) (hb : P.underlying tb = some (.int .u8)) (cb : P.cellsOf tb = 1)
    (hv : Value.okWide P w r b0 tk v) (h : DataW.Trod enc P w base spare held tk v d ps) : ∃ z : List Int, v = .agg (byteV z).toArray ∧ z.length = 32 ∧ AreB z := by
  obtain ⟨cs, rfl, hsz⟩ := okWide_array32 hk hv
  obtain ⟨fuel, hf⟩ := h
  obtain ⟨L, hL⟩ : ∃ L, L = cs.toList := ⟨_, rfl⟩
  have hcl : (Value.agg cs).cells.toList = L := by rw [hL]; rfl
  have hl : L.length = 32 := by rw [hL, ← hC, ← hsz]; simp
  obtain ⟨ys, m', _, _, _, hyl, hyy⟩ := DataW.trod_array hk hf
  rw [hcl] at hyy
  have one : ∀ i (hi : i < L.length), (L.drop i).take 1 = [L[i]] := fun i hi => by rw [List.drop_eq_getElem_cons hi]; rfl
  have each : ∀ i, i < 32 → ∃ q : Int, L[i]? = some (.int .u8 q) ∧ (Lit.int .u8 q).wf = true := fun i hi => by
    have h1 := hyy i hi
    rw [cb, Nat.mul_one, one i (by omega), List.getElem?_eq_getElem (by omega : i < ys.length)] at h1
    obtain ⟨q, hq, _, wq⟩ := DataW.trod_int hb h1
    simp only [List.cons.injEq, and_true] at hq
    exact ⟨q, by rw [List.getElem?_eq_getElem (by omega : i < L.length), hq], wq⟩
  have hz : ∃ z : Nat → Int, ∀ i, i < 32 → L[i]? = some (.int .u8 (z i)) ∧ (Lit.int .u8 (z i)).wf = true :=
    ⟨fun i => if h : i < 32 then (each i h).choose else 0, fun i hi => by
      have := (each i hi).choose_spec
      simpa [hi] using this⟩
  obtain ⟨z, hz⟩ := hz
  refine ⟨(List.range 32).map z, ?_, by simp, fun x hx => ?_⟩
  · have hLL : L = byteV ((List.range 32).map z) := by
      refine List.ext_getElem? fun i => ?_
      rcases Nat.lt_or_ge i 32 with hi | hi
      · rw [(hz i hi).1]
        simp [byteV, hi]
      · rw [List.getElem?_eq_none (by omega), List.getElem?_eq_none (by simp [byteV]; omega)]
    rw [← hLL, hL]
  · obtain ⟨i, hi, rfl⟩ := List.mem_map.1 hx
    have := u8_wf (hz i (List.mem_range.1 hi)).2
    omega
end Go.Proofs.YtmbdldnldcgdjaaDoor
