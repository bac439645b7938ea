/-
  Disks, as plain data: each sector's versions, the one that is kept in any case first. No memory in it.
-/
import Derived.Test.YtkefbgkdkmkghaaDoorB0
namespace Go.Proofs.YtkefbgkdkmkghaaDoor
set_option linter.unusedSimpArgs false
set_option linter.unusedVariables false
open Go.RowKit

/-- A disk: each sector's versions; how many go through still; is power off? -/
structure Dk where
  vs : List (List (List Int))
  left : Int
  off : Bool
def zsec : List Int := List.replicate 128 0
theorem zsec_len : zsec.length = 128 := by simp [zsec]
theorem zsec_bytes : AreB zsec := areB_zeros 128
/-- The last version. -/
def lastV (l : List (List Int)) : List Int := l.getLastD []
def Dk.new (n : Nat) : Dk := ⟨List.replicate n [zsec], -1, false⟩
/-- Power for one more. -/
def Dk.goes (d : Dk) : Dk := { d with off := decide (d.left = 0), left := if 0 < d.left then d.left - 1 else d.left }
def Dk.at_ (d : Dk) (i : Nat) : List (List Int) := d.vs.getD i []
/-- Read's error: none, or the number of one of api's. -/
def Dk.readE (d : Dk) (i : Int) : Option Nat := if d.off = true then some 0 else if i < 0 ∨ (d.vs.length : Int) ≤ i then some 1 else none
def Dk.put (d : Dk) (i : Nat) (b : List Int) : Dk := { d with vs := d.vs.set i (d.at_ i ++ [b]) }
def Dk.write (d : Dk) (i : Int) (b : List Int) : Dk × Option Nat :=
  if d.off = true then (d, some 0) else if i < 0 ∨ (d.vs.length : Int) ≤ i ∨ b.length ≠ 128 then (d, some 1) else
    ((d.put i.toNat b).goes, if (d.put i.toNat b).goes.off = true then some 0 else none)
def Dk.settle (d : Dk) : Dk := { d with vs := d.vs.map fun l => [lastV l] }
def Dk.sync (d : Dk) : Dk × Option Nat :=
  if d.off = true then (d, some 0) else if d.goes.off = true then (d.goes, some 0) else (d.goes.settle, none)
def Dk.fuse (d : Dk) (n : Int) : Dk := { d with left := max n (-1) }
/-- Which version a sector keeps. -/
def keepN (k : Int) (n : Nat) : Nat := (max k 0).toNat % n
def crashL : List (List (List Int)) → List Int → List (List (List Int))
  | [], _ => []
  | l :: r, ks => if l.length < 2 then l :: crashL r ks else
      match ks with
      | [] => [l.getD 0 []] :: crashL r []
      | k :: ks => [l.getD (keepN k l.length) []] :: crashL r ks
def Dk.crash (d : Dk) (ks : List Int) : Dk := ⟨crashL d.vs ks, -1, false⟩
def Dk.image (d : Dk) : List Int := (d.vs.map fun l => l.getD 0 []).flatten

/-- Sectors are whole, there is at least one version of each, and at most m. -/
structure Dk.Ok (m : Nat) (d : Dk) : Prop where
  some : ∀ l ∈ d.vs, l ≠ []
  most : ∀ l ∈ d.vs, l.length ≤ m
  each : ∀ l ∈ d.vs, ∀ b ∈ l, b.length = 128 ∧ AreB b
  size : d.vs.length ≤ 400
  left : -1 ≤ d.left ∧ d.left ≤ 9223372036854775807

section
variable {m : Nat} {d : Dk}
theorem Dk.Ok.mono (h : d.Ok m) {k : Nat} (hk : m ≤ k) : d.Ok k := ⟨h.some, fun l hl => Nat.le_trans (h.most l hl) hk, h.each, h.size, h.left⟩
theorem Dk.at_mem {i : Nat} (hi : i < d.vs.length) : d.at_ i ∈ d.vs := by
  unfold Dk.at_
  rw [List.getD_eq_getElem?_getD, List.getElem?_eq_getElem hi]
  exact List.getElem_mem hi
theorem Dk.Ok.pos (h : d.Ok m) {i : Nat} (hi : i < d.vs.length) : 0 < (d.at_ i).length := List.length_pos_iff.2 (h.some _ (Dk.at_mem hi))
theorem Dk.Ok.at_ (h : d.Ok m) {i : Nat} (hi : i < d.vs.length) : (d.at_ i).length ≤ m := h.most _ (Dk.at_mem hi)
theorem lastV_mem {l : List (List Int)} (h : l ≠ []) : lastV l ∈ l := by
  unfold lastV
  rw [List.getLastD_eq_getLast?, List.getLast?_eq_some_getLast h]
  exact List.getLast_mem h
theorem lastV_eq {l : List (List Int)} (h : l ≠ []) : lastV l = l.getD (l.length - 1) [] := by
  have := List.length_pos_iff.2 h
  unfold lastV
  rw [List.getLastD_eq_getLast?, List.getLast?_eq_getElem?, List.getD_eq_getElem?_getD]
theorem lastV_snoc (l : List (List Int)) (b : List Int) : lastV (l ++ [b]) = b := by simp [lastV]
theorem getD_mem' {l : List (List Int)} {j : Nat} (h : j < l.length) : l.getD j [] ∈ l := by
  rw [List.getD_eq_getElem?_getD, List.getElem?_eq_getElem h]; exact List.getElem_mem h
theorem keepN_lt (k : Int) {n : Nat} (h : 0 < n) : keepN k n < n := Nat.mod_lt _ h
theorem Dk.new_ok {n : Nat} (h : n ≤ 400) : (Dk.new n).Ok 1 :=
  ⟨fun l hl => by rw [(List.mem_replicate.1 hl).2]; simp, fun l hl => by rw [(List.mem_replicate.1 hl).2]; simp, fun l hl b hb => by
    rw [(List.mem_replicate.1 hl).2] at hb
    rw [List.mem_singleton.1 hb]
    exact ⟨zsec_len, zsec_bytes⟩, by simp [Dk.new]; omega, by simp [Dk.new]⟩
theorem Dk.Ok.goes (h : d.Ok m) : d.goes.Ok m := ⟨h.some, h.most, h.each, h.size, by have := h.left; unfold Dk.goes; dsimp only; split <;> omega⟩
theorem Dk.Ok.put (h : d.Ok m) {i : Nat} (hi : i < d.vs.length) {b : List Int} (hb : b.length = 128 ∧ AreB b) : (d.put i b).Ok (m + 1) :=
  ⟨fun l hl => by
    rcases List.mem_or_eq_of_mem_set hl with h' | h'
    · exact h.some l h'
    · rw [h']; simp, fun l hl => by
    rcases List.mem_or_eq_of_mem_set hl with h' | h'
    · have := h.most l h'; omega
    · rw [h', List.length_append]; have := h.at_ hi; simp only [List.length_singleton]; omega, fun l hl x hx => by
    rcases List.mem_or_eq_of_mem_set hl with h' | h'
    · exact h.each l h' x hx
    · rw [h'] at hx
      rcases List.mem_append.1 hx with h'' | h''
      · exact h.each _ (Dk.at_mem hi) x h''
      · rw [List.mem_singleton.1 h'']; exact hb, by unfold Dk.put; rw [List.length_set]; exact h.size, h.left⟩
theorem Dk.Ok.settle (h : d.Ok m) (hm : 1 ≤ m) : d.settle.Ok m :=
  ⟨fun l hl => by obtain ⟨y, _, rfl⟩ := List.mem_map.1 hl; simp, fun l hl => by obtain ⟨y, _, rfl⟩ := List.mem_map.1 hl; simpa using hm, fun l hl x hx => by
    obtain ⟨y, hy, rfl⟩ := List.mem_map.1 hl
    rw [List.mem_singleton.1 hx]
    exact h.each y hy _ (lastV_mem (h.some y hy)), by unfold Dk.settle; rw [List.length_map]; exact h.size, h.left⟩
theorem Dk.Ok.write (h : d.Ok m) (i : Int) {b : List Int} (hb : AreB b) : (d.write i b).1.Ok (m + 1) := by
  unfold Dk.write
  split
  · exact h.mono (by omega)
  · split
    · exact h.mono (by omega)
    · exact (h.put (by omega) ⟨by omega, hb⟩).goes
theorem Dk.Ok.sync (h : d.Ok m) (hm : 1 ≤ m) : d.sync.1.Ok m := by
  unfold Dk.sync
  split
  · exact h
  · split
    · exact h.goes
    · exact h.goes.settle hm
theorem Dk.Ok.fuse (h : d.Ok m) {n : Int} (hn : n ≤ 9223372036854775807) : (d.fuse n).Ok m := ⟨h.some, h.most, h.each, h.size, by unfold Dk.fuse; dsimp only; omega⟩
theorem crashL_len : ∀ (l : List (List (List Int))) (ks : List Int), (crashL l ks).length = l.length
  | [], _ => rfl
  | x :: l, ks => by
    unfold crashL
    split
    · rw [List.length_cons, List.length_cons, crashL_len l ks]
    · cases ks with
      | nil => rw [List.length_cons, List.length_cons, crashL_len l []]
      | cons k ks => rw [List.length_cons, List.length_cons, crashL_len l ks]
/-- What each sector is behind a crash: one version that was there. -/
theorem crashL_mem : ∀ (l : List (List (List Int))) (ks : List Int), (∀ x ∈ l, x ≠ []) → ∀ i, i < l.length → ∃ j, j < (l.getD i []).length ∧ (crashL l ks).getD i [] = [(l.getD i []).getD j []]
  | [], _, _, i, hi => absurd hi (by simp)
  | x :: l, ks, hx, i, hi => by
    have h0 := hx x (List.mem_cons_self ..)
    have hl := List.length_pos_iff.2 h0
    have hr := fun y hy => hx y (List.mem_cons_of_mem _ hy)
    unfold crashL
    split
    · rename_i h2
      cases i with
      | zero =>
        refine ⟨0, by simpa using hl, ?_⟩
        simp only [List.getD_cons_zero]
        obtain ⟨b, hb⟩ := List.length_eq_one_iff.1 (show x.length = 1 by omega)
        rw [hb]; rfl
      | succ i => exact crashL_mem l ks hr i (by simpa using hi)
    · cases ks with
      | nil => cases i with
        | zero => exact ⟨0, by simpa using hl, rfl⟩
        | succ i => exact crashL_mem l [] hr i (by simpa using hi)
      | cons k ks => cases i with
        | zero => exact ⟨keepN k x.length, by simpa using keepN_lt k hl, rfl⟩
        | succ i => exact crashL_mem l ks hr i (by simpa using hi)
theorem getD_of_mem {α : Type} {l : List α} {x : α} (d : α) (h : x ∈ l) : ∃ i, i < l.length ∧ l.getD i d = x := by
  obtain ⟨i, hi, rfl⟩ := List.getElem_of_mem h
  exact ⟨i, hi, by simp [List.getD, hi]⟩
theorem Dk.Ok.crash (h : d.Ok m) (ks : List Int) (hm : 1 ≤ m) : (d.crash ks).Ok m := by
  have hl := crashL_len d.vs ks
  have key : ∀ l ∈ crashL d.vs ks, ∃ x ∈ d.vs, ∃ b ∈ x, l = [b] := fun l hl' => by
    obtain ⟨i, hi, rfl⟩ := getD_of_mem [] hl'
    obtain ⟨j, hj, e⟩ := crashL_mem d.vs ks h.some i (by omega)
    exact ⟨_, Dk.at_mem (d := d) (by omega), _, getD_mem' hj, e⟩
  refine ⟨fun l hl' => ?_, fun l hl' => ?_, fun l hl' b hb => ?_, by show (crashL d.vs ks).length ≤ 400; rw [hl]; exact h.size, by simp [Dk.crash]⟩
  · obtain ⟨x, _, b, _, rfl⟩ := key l hl'; simp
  · obtain ⟨x, _, b, _, rfl⟩ := key l hl'; simpa using hm
  · obtain ⟨x, hx, c, hc, rfl⟩ := key l hl'
    rw [List.mem_singleton.1 hb]
    exact h.each x hx c hc
end
end Go.Proofs.YtkefbgkdkmkghaaDoor
