/-
  Blocks that are known whole, many at once: variables that closures capture, objects, boxes. No program in sight but for the model's own.
-/
import Derived.Test.YtkefbgkdkmkghaaDoorOwn
namespace Go.Proofs.YtkefbgkdkmkghaaDoor
set_option linter.unusedSimpArgs false
set_option linter.unusedVariables false
open Go.RowKit

/-- A block known whole: its number, its cells, its type. -/
abbrev Known := Nat × List Value × TypeId
/-- These blocks are known whole, and no two are the same. -/
structure Has (w : World) (l : List Known) : Prop where
  all : ∀ x ∈ l, Blk w x.1 x.2.1 x.2.2
  one : ∀ (i j : Nat) (x y : Known), l[i]? = some x → l[j]? = some y → x.1 = y.1 → i = j
theorem size_alloc' (w : World) (o : Obj) : (w.alloc o).heap.size = w.heap.size + 1 := Array.size_push _
theorem Has.nil (w : World) : Has w [] := ⟨fun _ h => by simp at h, fun i j x y h => by simp at h⟩
theorem Has.lt {w : World} {l : List Known} (h : Has w l) {x : Known} (hx : x ∈ l) : x.1 < w.heap.size := (h.all x hx).lt
theorem Has.cons {w : World} {l : List Known} (h : Has w l) (cs : List Value) (T : TypeId) {n : Nat} (hn : n = w.heap.size) : Has (w.alloc (.cells cs.toArray T)) ((n, cs, T) :: l) := by
  subst hn
  refine ⟨fun x hx => ?_, fun i j x y hi hj he => ?_⟩
  · rcases List.mem_cons.1 hx with rfl | hx
    · exact Blk.new w cs T
    · exact (h.all x hx).alloc _
  · cases i with
    | zero => cases j with
      | zero => rfl
      | succ j =>
        simp at hi hj
        subst hi
        have := h.lt (List.mem_of_getElem? hj)
        simp at he
        omega
    | succ i => cases j with
      | zero =>
        simp at hi hj
        subst hj
        have := h.lt (List.mem_of_getElem? hi)
        simp at he
        omega
      | succ j =>
        simp at hi hj
        rw [h.one i j x y hi hj he]
theorem Has.keep {S : Nat → Prop} {w w' : World} {l : List Known} (h : Has w l) (hk : Keeps S w w') (hn : ∀ x ∈ l, ¬ S x.1) : Has w' l := ⟨fun x hx => (h.all x hx).keep hk (hn x hx), h.one⟩
theorem Has.keep0 {w w' : World} {l : List Known} (h : Has w l) (hk : Keeps Nil w w') : Has w' l := h.keep hk (fun _ _ h => h)
theorem Has.drew {w : World} {l : List Known} (h : Has w l) : Has w.drew l := h.keep0 (Keeps.refl _ w).drew
theorem Has.at {w : World} {l : List Known} (h : Has w l) (i : Nat) {g : Nat} {cs : List Value} {T : TypeId} (hi : l[i]? = some (g, cs, T)) : Blk w g cs T := h.all (g, cs, T) (List.mem_of_getElem? hi)
/-- One of them may have been changed. -/
theorem Has.put {w w' : World} {l : List Known} (h : Has w l) (i : Nat) {g : Nat} {cs : List Value} {T : TypeId} (hi : l[i]? = some (g, cs, T)) {S : Nat → Prop} (hk : Keeps S w w') (hS : ∀ x ∈ l, S x.1 → x.1 = g) {cs' : List Value} {T' : TypeId} (hb : Blk w' g cs' T') : Has w' (l.set i (g, cs', T')) := by
  obtain ⟨hlt, hget⟩ := List.getElem?_eq_some_iff.1 hi
  have key : ∀ (k : Nat) (x : Known), (l.set i (g, cs', T'))[k]? = some x → ∃ y : Known, l[k]? = some y ∧ x.1 = y.1 := fun k x hk' => by
    rw [List.getElem?_set] at hk'
    by_cases hik : i = k
    · subst hik
      simp [hlt] at hk'
      subst hk'
      exact ⟨_, hi, rfl⟩
    · simp only [if_neg hik] at hk'
      exact ⟨_, hk', rfl⟩
  refine ⟨fun x hx => ?_, fun j k x y hj hk' he => ?_⟩
  · obtain ⟨k, hk'⟩ := List.getElem?_of_mem hx
    have hk2 := hk'
    rw [List.getElem?_set] at hk2
    by_cases hik : i = k
    · subst hik
      simp [hlt] at hk2
      subst hk2
      exact hb
    · simp only [if_neg hik] at hk2
      have hx' := List.mem_of_getElem? hk2
      exact (h.all x hx').keep hk (fun hs => hik (h.one i k _ _ hi hk2 (hS x hx' hs).symm))
  · obtain ⟨x', hx1, hx2⟩ := key j x hj
    obtain ⟨y', hy1, hy2⟩ := key k y hk'
    exact h.one j k x' y' hx1 hy1 (by rw [← hx2, ← hy2, he])
theorem Has.set {w : World} {l : List Known} (h : Has w l) (i : Nat) {g : Nat} {cs : List Value} {T : TypeId} (hi : l[i]? = some (g, cs, T)) (j : Nat) (v : Value) : Has (w.setCell ⟨g, j, none⟩ v) (l.set i (g, cs.set j v, T)) :=
  h.put i hi ((Keeps.refl (One g) w).setOne j v) (fun _ _ h => h) ((h.at i hi).set j v)
theorem Has.ne {w : World} {l : List Known} (h : Has w l) (i j : Nat) {x y : Known} (hi : l[i]? = some x) (hj : l[j]? = some y) (hij : i ≠ j) : x.1 ≠ y.1 := fun he => hij (h.one i j x y hi hj he)
end Go.Proofs.YtkefbgkdkmkghaaDoor
