/-
  SHA-256 as plain functions on lists of numbers, as the program's text spells it. No memory in it.
-/
import Derived.Test.YtmbdldnldcgdjaaDoorSha1
namespace Go.Proofs.YtmbdldnldcgdjaaDoor
set_option linter.unusedSimpArgs false
set_option linter.unusedVariables false
open Go.RowKit

abbrev addw (a b : Int) : Int := (a + b) % 4294967296
def be4 (a b c d : Int) : Int := bits .or .u32 (bits .or .u32 (bits .or .u32 (a * 16777216) (b * 65536)) (c * 256)) d
def sig0 (x : Int) : Int := bits .xor .u32 (bits .xor .u32 (rotr x 7) (rotr x 18)) (x / 8)
def sig1 (x : Int) : Int := bits .xor .u32 (bits .xor .u32 (rotr x 17) (rotr x 19)) (x / 1024)
def nextW (p : List Int) (i : Nat) : Int := (p.getD (i - 16) 0 + sig0 (p.getD (i - 15) 0) + p.getD (i - 7) 0 + sig1 (p.getD (i - 2) 0)) % 4294967296
/-- A block's words, the first j. -/
def wl (l : List Int) : Nat → List Int
  | 0 => []
  | j + 1 => wl l j ++ [if j < 16 then be4 (l.getD (4 * j) 0) (l.getD (4 * j + 1) 0) (l.getD (4 * j + 2) 0) (l.getD (4 * j + 3) 0) else nextW (wl l j) j]
theorem wl_succ (l : List Int) (j : Nat) : wl l (j + 1) = wl l j ++ [if j < 16 then be4 (l.getD (4 * j) 0) (l.getD (4 * j + 1) 0) (l.getD (4 * j + 2) 0) (l.getD (4 * j + 3) 0) else nextW (wl l j) j] := rfl
def wlUp (l : List Int) (j : Nat) : List Int := wl l j ++ List.replicate (64 - j) 0
def wordV (l : List Int) : List Value := l.map (Value.int .u32)
def IsW (x : Int) : Prop := 0 ≤ x ∧ x < 4294967296
theorem bits_u32 (op : BinOp) (a b : Int) : IsW (bits op .u32 a b) := by
  unfold bits IsW
  split <;> (rw [IntKind.wrap_u32]; omega)
theorem isW_addw (a b : Int) : IsW (addw a b) := by unfold IsW addw; omega
theorem wl_len (l : List Int) : ∀ j, (wl l j).length = j
  | 0 => rfl
  | j + 1 => by simp [wl, wl_len l j]
theorem wlUp_len (l : List Int) (j : Nat) (h : j ≤ 64) : (wlUp l j).length = 64 := by simp [wlUp, wl_len]; omega
theorem wl_isW (l : List Int) : ∀ j, ∀ x ∈ wl l j, IsW x
  | 0 => fun x hx => by simp [wl] at hx
  | j + 1 => fun x hx => by
    unfold wl at hx
    rcases List.mem_append.1 hx with hx | hx
    · exact wl_isW l j x hx
    · rw [List.mem_singleton.1 hx]
      split
      · exact bits_u32 _ _ _
      · exact isW_addw _ _
theorem wlUp_succ (l : List Int) (j : Nat) (h : j < 64) (v : Int) (hv : (if j < 16 then be4 (l.getD (4 * j) 0) (l.getD (4 * j + 1) 0) (l.getD (4 * j + 2) 0) (l.getD (4 * j + 3) 0) else nextW (wl l j) j) = v) : (wlUp l j).set j v = wlUp l (j + 1) := by
  unfold wlUp
  rw [wl_succ, List.set_append_right _ _ (by rw [wl_len]; exact Nat.le_refl _), wl_len, Nat.sub_self, hv]
  obtain ⟨m, hm⟩ : ∃ m, 64 - j = m + 1 := ⟨64 - j - 1, by omega⟩
  rw [hm, List.replicate_succ, List.set_cons_zero, show 64 - (j + 1) = m by omega]
  simp
theorem wlUp_getD (l : List Int) (j i : Nat) (h : i < j) : (wlUp l j).getD i 0 = (wl l j).getD i 0 := by
  unfold wlUp
  simp only [List.getD]
  rw [List.getElem?_append_left (by rw [wl_len]; exact h)]
theorem wlUp_full (l : List Int) : wlUp l 64 = wl l 64 := by simp [wlUp]
theorem wordV_set (l : List Int) (i : Nat) (x : Int) : wordV (l.set i x) = (wordV l).set i (.int .u32 x) := by simp [wordV, List.map_set]
theorem wordV_one (l : List Int) : ∀ v ∈ wordV l, v.oneCell' = true := fun v hv => by obtain ⟨x, _, rfl⟩ := List.mem_map.1 hv; rfl
theorem wordV_len (l : List Int) : (wordV l).length = l.length := by simp [wordV]
theorem wordV_at (l : List Int) (i : Nat) (h : i < l.length) : (wordV l)[i]? = some (.int .u32 (l.getD i 0)) := by simp [wordV, List.getD, h]
theorem getD_isW {l : List Int} (h : ∀ x ∈ l, IsW x) (i : Nat) : IsW (l.getD i 0) := by
  simp only [List.getD]
  rcases Nat.lt_or_ge i l.length with hi | hi
  · rw [List.getElem?_eq_getElem hi]; exact h _ (List.getElem_mem hi)
  · rw [List.getElem?_eq_none hi]; exact ⟨by decide, by decide⟩
end Go.Proofs.YtmbdldnldcgdjaaDoor
