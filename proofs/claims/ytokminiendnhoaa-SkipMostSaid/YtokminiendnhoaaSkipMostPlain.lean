/-
  Chapter 14: the entries of SkipMost.
-/
import Derived.Test.YtokminiendnhoaaSkipTwo
import Derived.Test.YtokminiendnhoaaMake
namespace Go.Proofs.Ytokminiendnhoaa
set_option linter.unusedSimpArgs false
set_option linter.unusedVariables false
open Go.RowKit

def entM (x : Nat) : Ent := (key1 7, keyOf (x : Int), (x : Int))
def listM (j : Nat) : List Ent := (List.range' (j - 40) (j - (j - 40))).map entM
theorem entM_wf {x : Nat} (h : x < 4294967296) : WfE (entM x) := ⟨rfl, keyOf_len _, key1_bytes 7 (by omega) (by omega), keyOf_bytes _, by simp [entM], by simp [entM]; omega⟩
theorem listM_len (j : Nat) : (listM j).length = j - (j - 40) := by simp [listM]
theorem listM_mem {j : Nat} {e : Ent} (h : e ∈ listM j) : ∃ x, j - 40 ≤ x ∧ x < j ∧ e = entM x := by
  obtain ⟨x, hx, rfl⟩ := List.mem_map.1 h
  rw [List.mem_range'_1] at hx
  exact ⟨x, hx.1, by omega, rfl⟩
theorem listM_get {j i : Nat} (hi : i < j - (j - 40)) : (listM j)[i]? = some (entM (j - 40 + i)) := by
  unfold listM
  rw [List.getElem?_map, List.getElem?_eq_getElem (by simpa using hi)]
  simp
theorem isE_entM (n : Int) (x : Nat) : isE (key1 7) n (entM x) = ((x : Int) == n) := by
  unfold isE entM
  simp
theorem place_none {l : List Ent} {dh : List Int} {n : Int} (h : ∀ e ∈ l, isE dh n e = false) : placeE l dh n = -1 := by
  rcases place_lt l dh n with h1 | ⟨i, _, _, e, he, hq⟩
  · exact h1
  · rw [h e (List.mem_of_getElem? he)] at hq; cases hq
theorem placeM_none {j : Nat} {n : Int} (h : ∀ x : Nat, j - 40 ≤ x → x < j → (x : Int) ≠ n) : placeE (listM j) (key1 7) n = -1 :=
  place_none (fun e he => by
    obtain ⟨x, h1, h2, rfl⟩ := listM_mem he
    rw [isE_entM]
    have := h x h1 h2
    simpa using this)
theorem putM (j : Nat) : putE (listM j) (key1 7) j (keyOf (j : Int)) = listM (j + 1) := by
  have ht : takeE (listM j) (key1 7) j = listM j := by
    unfold takeE
    rw [if_pos (placeM_none (fun x _ h => by omega))]
  unfold putE
  rw [ht, listM_len]
  by_cases h : 40 ≤ j - (j - 40)
  · rw [if_pos h]
    have e1 : listM j = entM (j - 40) :: (List.range' (j - 40 + 1) 39).map entM := by
      unfold listM
      rw [show j - (j - 40) = 39 + 1 by omega, List.range'_succ]
      rfl
    have e2 : listM (j + 1) = (List.range' (j - 40 + 1) 39).map entM ++ [entM j] := by
      unfold listM
      rw [show j + 1 - (j + 1 - 40) = 39 + 1 by omega, List.range'_concat, List.map_append, show j + 1 - 40 = j - 40 + 1 by omega]
      rw [show j - 40 + 1 + 1 * 39 = j by omega]
      rfl
    rw [e1, e2]
    rfl
  · rw [if_neg h]
    unfold listM
    rw [show j - 40 = 0 by omega, show j + 1 - 40 = 0 by omega, Nat.sub_zero, Nat.sub_zero, List.range'_concat, List.map_append]
    rw [show 0 + 1 * j = j by omega]
    rfl
theorem listM_apart (j : Nat) : ApartE (listM j) := by
  unfold ApartE listM
  rw [List.pairwise_map]
  refine List.Pairwise.imp ?_ (List.pairwise_lt_range' (s := j - 40) (n := j - (j - 40)))
  intro x y hxy h
  have : (x : Int) = y := h.2
  omega
theorem listM_wf {j : Nat} (hj : j < 1000) : ∀ e ∈ listM j, WfE e := fun e he => by
  obtain ⟨x, _, h, rfl⟩ := listM_mem he
  exact entM_wf (by omega)
theorem listM_cons (n : Nat) : listM (40 + n) = entM n :: (List.range' (n + 1) 39).map entM := by
  unfold listM
  rw [show 40 + n - (40 + n - 40) = 39 + 1 by omega, List.range'_succ, show 40 + n - 40 = n by omega]
  rfl
theorem placeM (n : Nat) : placeE (listM (40 + n)) (key1 7) n = 0 := by
  rw [listM_cons]
  unfold placeE findE
  rw [isE_entM]
  simp
theorem findM (n : Nat) : findKey (listM (40 + n)) (key1 7) n = keyOf (n : Int) ∧ hasE (listM (40 + n)) (key1 7) n = true := by
  constructor
  · unfold findKey
    rw [placeM, if_neg (by omega), listM_cons]
    rfl
  · unfold hasE
    rw [placeM]
    rfl
theorem goneM {n : Nat} {x : Int} (h : x < n ∨ (n : Int) + 40 ≤ x) : hasE (listM (40 + n)) (key1 7) x = false := by
  unfold hasE
  rw [placeM_none (fun y h1 h2 => by omega)]
  rfl
theorem takeM (n : Nat) : hasE (takeE (listM (40 + n)) (key1 7) n) (key1 7) n = false := by
  unfold hasE takeE
  rw [placeM, if_neg (by omega), listM_cons]
  rw [place_none (fun e he => by
    have he : e ∈ (List.range' (n + 1) 39).map entM := he
    obtain ⟨x, hx, rfl⟩ := List.mem_map.1 he
    rw [List.mem_range'_1] at hx
    rw [isE_entM]
    have : (x : Int) ≠ n := by omega
    simpa using this)]
  rfl
theorem splice_ge {cs vs : List Value} {off k : Nat} (h : off + vs.length ≤ k) (ho : off ≤ cs.length) : (splice cs off vs)[k]? = cs[k]? := by
  unfold splice
  rw [List.getElem?_append_right (by simp; omega), List.getElem?_drop]
  congr 1
  simp
  omega
end Go.Proofs.Ytokminiendnhoaa
