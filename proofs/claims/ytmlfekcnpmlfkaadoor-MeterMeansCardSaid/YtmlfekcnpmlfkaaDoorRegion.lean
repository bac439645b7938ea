/-
  A region that draws its order, walked by hand in one order: reads are taken first under a condition S, what writes is carried out where it is the only one that may come up. No program in sight but for the model's own.
-/
import Derived.Test.YtmlfekcnpmlfkaaDoorOwn
import Derived.Deep.RegionHeld3
namespace Go.Proofs.YtmlfekcnpmlfkaaDoor
set_option linter.unusedSimpArgs false
set_option linter.unusedVariables false
open Go.RowKit

section
variable {P : Program} {md : Region.Mode} {l : List Oper} {Q : Exit → Act → World → Prop} {S : World → Prop}
theorem takeL {i : Nat} {oi : Oper} {v : Value} {fuel : Nat} {listed : Array Bool} {a : Act} {w : World} (hi : l[i]? = some oi)
    (hs : Region.noSelect l.toArray = true) (hf : Region.free md l.toArray listed i = true) (hr : (Region.ready md l.toArray listed).contains i = true)
    (hQ : ∀ c a w, Q (.panic c) (a.put oi.dst v) w → Q (.panic c) a w) (hy : YieldsIf P l.toArray S oi v a) (hS : S w)
    (h : wpAnyH P md l.toArray Q S fuel (listed.setIfInBounds i true) (a.put oi.dst v) w) : wpAnyH P md l.toArray Q S (fuel + 1) listed a w :=
  wpAnyH_take (by simpa using hi) hs hf hr hQ hy hS h
theorem onlyL {i : Nat} {oi : Oper} {fuel : Nat} {listed : Array Bool} {a : Act} {w : World} (hi : l[i]? = some oi) (hr : Region.ready md l.toArray listed = [i])
    (h : ∀ K : Act → World → Prop, (∀ a' w', S w' → wpAnyH P md l.toArray Q S fuel (listed.setIfInBounds i true) a' w' → K a' w') → if Region.wanted oi (yielded l.toArray a.tmps) = true then oi.wp P a w K Q else K (a.put oi.dst undef) w) :
    wpAnyH P md l.toArray Q S (fuel + 1) listed a w :=
  wpAnyH_all hr (by simp) (fun j hj => by
    obtain rfl : j = i := by simpa using hj
    have hi' : l.toArray[j]? = some oi := by simpa using hi
    unfold wpOp
    rw [hi']
    have h1 := h (fun a' w' => S w' ∧ wpAnyH P md l.toArray Q S fuel (listed.setIfInBounds j true) a' w') (fun a' w' hS h => ⟨hS, h⟩)
    simp only
    split
    · rename_i hw; rw [if_pos hw] at h1; exact .inl h1
    · rename_i hw; rw [if_neg hw] at h1; exact h1)
/-- Two may come up. -/
theorem bothL {i j : Nat} {oi oj : Oper} {fuel : Nat} {listed : Array Bool} {a : Act} {w : World} (hi : l[i]? = some oi) (hj : l[j]? = some oj) (hr : Region.ready md l.toArray listed = [i, j])
    (h1 : ∀ K : Act → World → Prop, (∀ a' w', S w' → wpAnyH P md l.toArray Q S fuel (listed.setIfInBounds i true) a' w' → K a' w') → if Region.wanted oi (yielded l.toArray a.tmps) = true then oi.wp P a w K Q else K (a.put oi.dst undef) w)
    (h2 : ∀ K : Act → World → Prop, (∀ a' w', S w' → wpAnyH P md l.toArray Q S fuel (listed.setIfInBounds j true) a' w' → K a' w') → if Region.wanted oj (yielded l.toArray a.tmps) = true then oj.wp P a w K Q else K (a.put oj.dst undef) w) :
    wpAnyH P md l.toArray Q S (fuel + 1) listed a w :=
  wpAnyH_all hr (by simp) (fun k hk => by
    have hk' : k = i ∨ k = j := by simpa using hk
    rcases hk' with rfl | rfl
    · have hi' : l.toArray[k]? = some oi := by simpa using hi
      unfold wpOp
      rw [hi']
      have h3 := h1 (fun a' w' => S w' ∧ wpAnyH P md l.toArray Q S fuel (listed.setIfInBounds k true) a' w') (fun a' w' hS h => ⟨hS, h⟩)
      simp only
      split
      · rename_i hw; rw [if_pos hw] at h3; exact .inl h3
      · rename_i hw; rw [if_neg hw] at h3; exact h3
    · have hi' : l.toArray[k]? = some oj := by simpa using hj
      unfold wpOp
      rw [hi']
      have h3 := h2 (fun a' w' => S w' ∧ wpAnyH P md l.toArray Q S fuel (listed.setIfInBounds k true) a' w') (fun a' w' hS h => ⟨hS, h⟩)
      simp only
      split
      · rename_i hw; rw [if_pos hw] at h3; exact .inl h3
      · rename_i hw; rw [if_neg hw] at h3; exact h3)
end

section
variable {P : Program} {ops : Array Oper} {o : Oper} {a : Act} {w : World} {K : Act → World → Prop} {Q : Exit → Act → World → Prop} {E : Prop}
/-- A struct or an array built by value: it may be taken first. -/
theorem yieldsIf_build {S : World → Prop} (hw : Region.wanted o (yielded ops a.tmps) = true) (t : TypeId) (parts : Array (Nat × Operand)) (ho : o.op = .build t parts) (cells : List Value) (ps : List (Nat × Value)) (hb : P.built t ps = some cells.toArray) (hp : (parts.map fun (i, x) => (i, a.eval x)).toList = ps) :
    YieldsIf P ops S o (.agg cells.toArray) a :=
  .inl ⟨hw, fun w _ => by
    subst hp
    unfold execOp
    simp only [ho, Sem.run_bind, run_build w t _ cells.toArray hb, Result.andThen_ok]
    rfl⟩
/-- A slice literal of one element of many cells. -/
theorem step_bsOne (hg : o.guard = none) (t e : TypeId) (parts : Array (Nat × Operand)) (ho : o.op = .buildSlice t 1 parts)
    (vs : List Value) (v : Value) (hv : v.cells = vs.toArray) (size : Nat) (hu : P.underlying t = some (.slice e)) (hi : (P.info? e).map (fun i => (i.zero.map (·.cells.size), i.size)) = some (some size, size)) (hpos : 0 < size) (hsm : size ≤ 2 ^ 24) (hlen : vs.length = size)
    (hparts : (parts.map fun (i, x) => (i, a.eval x)).toList = [(0, v)])
    (h : K (a.put o.dst (.slice (some ⟨w.heap.size, 0, none⟩) 1 1)) (w.alloc (.cells vs.toArray e))) : if Region.wanted o (yielded ops a.tmps) = true then Oper.wp P o a w K Q else E := by
  have hw : Region.wanted o (yielded ops a.tmps) = true := by simp [Region.wanted, hg]
  rw [if_pos hw]
  obtain ⟨ie, hie, hs⟩ := Option.map_eq_some_iff.1 hi
  simp only [Prod.mk.injEq] at hs
  obtain ⟨hz, hs1⟩ := hs
  obtain ⟨z, hz1, hz2⟩ := Option.map_eq_some_iff.1 hz
  refine wp_buildSlice t e 1 parts ho vs.toArray ie z hu hie hz1 (by rw [hs1]; omega) (by rw [hs1]; omega) ?_ h
  rw [hparts, hs1]
  have := Great.fill_whole (s := size) hpos [v] ((Array.range (1 * size)).map (z.cells[· % z.cells.size]!)) (by intro x hx; simp at hx; rw [hx, hv]; simpa using hlen) (by simp)
  simp only [List.zipIdx_cons, List.zipIdx_nil, List.map_cons, List.map_nil, List.flatMap_cons, List.flatMap_nil, List.append_nil, hv] at this
  simpa using this
/-- append of something to a slice of one's own. -/
theorem step_append (hg : o.guard = none) (s x : Operand) (t : TypeId) (ho : o.op = .call { callee := .builtin .append, args := #[s, x], argTypes := #[t, t] })
    (e : TypeId) (size bytes : Nat) (ht : P.underlying t = some (.slice e)) (hi : (P.info? e).map (fun i => (i.zero.map (·.cells.size), i.size, i.bytes)) = some (some size, size, bytes)) (hsz : 0 < size)
    (ad : Option Addr) (cap n : Nat) (xs : List Value) (hs : a.eval s = .slice ad n cap) (hown : Own w e size ad cap n xs)
    (ao : Addr) (m c : Nat) (news : List Value) (hx : a.eval x = .slice (some ao) m c) (hsrc : Src w (some ao) m c size news) (hm : 0 < m) (h63 : n + m ≤ maxLen) (hbytes : (n + m) * bytes ≤ 140737488355328)
    (h : ∀ g cap' w', Own w' e size (some ⟨g, 0, none⟩) cap' (n + m) (xs ++ news) → Keeps (blkOf ad) w w' → (blkOf ad g ∨ g = w.heap.size) → K (a.put o.dst (.slice (some ⟨g, 0, none⟩) (n + m) cap')) w') :
    if Region.wanted o (yielded ops a.tmps) = true then Oper.wp P o a w K Q else E := by
  obtain ⟨i, hie, hp⟩ := Option.map_eq_some_iff.1 hi
  simp only [Prod.mk.injEq] at hp
  obtain ⟨hz, hs1, hb1⟩ := hp
  obtain ⟨z, hz1, hz2⟩ := Option.map_eq_some_iff.1 hz
  obtain ⟨hnl, h1c, hcase⟩ := hsrc
  rcases hcase with ⟨h0, _⟩ | ⟨ad', had, hc⟩
  · cases h0
  · cases had
    refine step_append_lies w hg s x t ho 0 e i z size bytes ht hie hz1 hs1 hb1 hz2 hsz _ n xs hs hown.to ao m c news hx hnl hc h1c hm h63 hbytes (Nat.zero_le _) w.heap.size rfl ?_
    intro g cap' w' hown1 hgrow hat hlt
    refine h g cap' w' (Own.of hown1) ((Keeps.refl _ _).of_grown hgrow (fun k hk => .inl ?_)) ?_
    · cases ad with
      | none => cases hk
      | some ad' => cases hk; exact ⟨ad', rfl, rfl⟩
    · rcases hat with hat | hat
      · cases ad with
        | none => cases hat
        | some ad' => cases hat; exact .inl ⟨ad', rfl, rfl⟩
      · exact .inr hat
end
end Go.Proofs.YtmlfekcnpmlfkaaDoor
