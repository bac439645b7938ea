/-
  A header by value: what an argument of that type holds.
-/
import Derived.Test.YtdkfhfflhglmaaaDoorProg
import Derived.Test.YtdkfhfflhglmaaaDoorLib
import Derived.OpenShut
import Derived.WideShapes
namespace Go.Proofs.YtdkfhfflhglmaaaDoor
set_option linter.unusedSimpArgs false
set_option linter.unusedVariables false
open Go.RowKit Go.ChangeShapes Go.WideShapes

/-- A header's cells: its key, its two numbers. -/
def headV (k : List Int) (pn n : Int) : List Value := k.map (Value.int .u8) ++ [.int .u32 pn, .int .u32 n]
structure IsHead (k : List Int) (pn n : Int) : Prop where
  len : k.length = 32
  byte : ∀ x ∈ k, 0 ≤ x ∧ x < 256
  pn : 0 ≤ pn ∧ pn < 4294967296
  n : 0 ≤ n ∧ n < 4294967296

theorem IsHead.open {H : Type} {enc : TypeId × Value → H} {P : Program} {w : World} {base b0 : Nat} {r : Reach} {spare : Nat → Bool} {held : Bool} {t tk tb tu : TypeId} {f0 f1 f2 : Field} {v : Value} {d : DataW H} {ps : List MemPlace}
    (ht : P.underlying t = some (.struct #[f0, f1, f2])) (hC : P.cellsOf t = 34) (e0 : f0.type = tk) (o0 : f0.offset = 0) (c0 : P.cellsOf tk = 32) (e1 : f1.type = tu) (o1 : f1.offset = 32) (e2 : f2.type = tu) (o2 : f2.offset = 33) (cu : P.cellsOf tu = 1)
    (hk : P.underlying tk = some (.array 32 tb)) (hb : P.underlying tb = some (.int .u8)) (cb : P.cellsOf tb = 1) (hu : P.underlying tu = some (.int .u32))
    (hv : Value.okWide P w r b0 t v) (h : DataW.Trod enc P w base spare held t v d ps) : ∃ z pn n, v = .agg (headV z pn n).toArray ∧ IsHead z pn n := by
  obtain ⟨cs, rfl, hsz⟩ := okWide_struct ht hv
  obtain ⟨fuel, hf⟩ := h
  obtain ⟨xs, m, _, _, hl, hxl, hff⟩ := DataW.trod_struct ht hf
  have hxl3 : xs.length = 3 := hxl
  have g0 := hff 0 f0 rfl
  have g1 := hff 1 f1 rfl
  have g2 := hff 2 f2 rfl
  rw [e0, o0, c0] at g0
  rw [e1, o1, cu] at g1
  rw [e2, o2, cu] at g2
  obtain ⟨L, hL⟩ : ∃ L, L = cs.toList := ⟨_, rfl⟩
  have hcl : (Value.agg cs).cells.toList = L := by rw [hL]; rfl
  rw [hcl] at hl g0 g1 g2
  rw [hC] at hl
  have hx0 : 0 < xs.length := by omega
  rw [List.getElem?_eq_getElem (by omega : 0 < xs.length)] at g0
  rw [List.getElem?_eq_getElem (by omega : 1 < xs.length)] at g1
  rw [List.getElem?_eq_getElem (by omega : 2 < xs.length)] at g2
  have one : ∀ i (hi : i < L.length), (L.drop i).take 1 = [L[i]] := fun i hi => by rw [List.drop_eq_getElem_cons hi]; rfl
  rw [one 32 (by omega)] at g1
  rw [one 33 (by omega)] at g2
  obtain ⟨pn, hpn, _, wpn⟩ := DataW.trod_int hu g1
  obtain ⟨n, hn, _, wn⟩ := DataW.trod_int hu g2
  obtain ⟨ys, m', _, _, _, hyl, hyy⟩ := DataW.trod_array hk g0
  have each : ∀ i, i < 32 → ∃ q : Int, L[i]? = some (.int .u8 q) ∧ (Lit.int .u8 q).wf = true := fun i hi => by
    have h1 := hyy i hi
    rw [cb, Nat.mul_one, List.drop_zero, List.drop_take, List.take_take, Nat.min_eq_left (by omega), one i (by omega), List.getElem?_eq_getElem (by omega : i < ys.length)] at h1
    obtain ⟨q, hq, _, wq⟩ := DataW.trod_int hb h1
    simp only [List.cons.injEq, and_true] at hq
    exact ⟨q, by rw [List.getElem?_eq_getElem (by omega : i < L.length), hq], wq⟩
  have hz : ∃ z : Nat → Int, ∀ i, i < 32 → L[i]? = some (.int .u8 (z i)) ∧ (Lit.int .u8 (z i)).wf = true :=
    ⟨fun i => if h : i < 32 then (each i h).choose else 0, fun i hi => by
      have := (each i hi).choose_spec
      simpa [hi] using this⟩
  obtain ⟨z, hz⟩ := hz
  simp only [List.cons.injEq, and_true] at hpn hn
  refine ⟨(List.range 32).map z, pn, n, ?_, ⟨by simp, fun x hx => ?_, ?_, ?_⟩⟩
  · have hLL : L = headV ((List.range 32).map z) pn n := by
      refine List.ext_getElem? fun i => ?_
      rcases Nat.lt_or_ge i 32 with hi | hi
      · rw [(hz i hi).1]
        simp [headV, List.getElem?_append, hi]
      · by_cases h32 : i = 32
        · subst h32
          rw [List.getElem?_eq_getElem (by omega : 32 < L.length), hpn]
          simp [headV, List.getElem?_append]
        · by_cases h33 : i = 33
          · subst h33
            rw [List.getElem?_eq_getElem (by omega : 33 < L.length), hn]
            simp [headV, List.getElem?_append]
          · rw [List.getElem?_eq_none (by omega), List.getElem?_eq_none (by simp [headV]; omega)]
    rw [← hLL, hL]
  · obtain ⟨i, hi, rfl⟩ := List.mem_map.1 hx
    have := u8_wf (hz i (List.mem_range.1 hi)).2
    omega
  · have := u32_wf wpn; omega
  · have := u32_wf wn; omega
end Go.Proofs.YtdkfhfflhglmaaaDoor
