/-
  Slices of bytes that may begin amid a block: what is behind 's = s[k:]'; append to them. No program in sight but for the model's own.
-/
import Derived.Test.YtkefbgkdkmkghaaDoorRegion
import Derived.ArgAppend
namespace Go.Proofs.YtkefbgkdkmkghaaDoor
set_option linter.unusedSimpArgs false
set_option linter.unusedVariables false
open Go.RowKit

theorem Row.keepF {k : IntKind} {w w' : World} {a : Option Addr} {l : List Int} {len : Nat} {S : Nat → Prop} (h : Row k w a len l) (hk : Keeps S w w') (hn : 0 < len → ∀ b, blkOf a b → ¬ S b) : Row k w' a len l :=
  ⟨h.llen, h.most, fun h0 => by
    obtain ⟨b, off, ha, hb, hc⟩ := h.cell h0
    exact ⟨b, off, ha, Nat.lt_of_lt_of_le hb hk.size, fun i hi => hk.cell (hc i hi) (hn h0 b ⟨_, ha, rfl⟩)⟩, h.wf⟩
/-- What such a slice may write to. -/
def midOf (a : Option Addr) (cap : Nat) : Nat → Prop := fun k => 0 < cap ∧ blkOf a k
/-- A slice of bytes of one's own, wherever it begins. -/
structure MidB (w : World) (e : TypeId) (a : Option Addr) (cap n : Nat) (l : List Int) : Prop where
  len : l.length = n
  le : n ≤ cap
  most : cap ≤ maxLen
  nil : a = none → cap = 0
  lies : 0 < cap → ∃ g off cs, a = some ⟨g, off, none⟩ ∧ Blk w g cs e ∧ off + cap ≤ cs.length ∧ ∀ j, j < n → cs[off + j]? = some (.int .u8 (l.getD j 0))

section
variable {w w' : World} {e : TypeId} {a : Option Addr} {cap n : Nat} {l : List Int}
theorem MidB.keep {S : Nat → Prop} (h : MidB w e a cap n l) (hk : Keeps S w w') (hn : ∀ k, midOf a cap k → ¬ S k) : MidB w' e a cap n l :=
  ⟨h.len, h.le, h.most, h.nil, fun h0 => by
    obtain ⟨g, off, cs, ha, hb, hc⟩ := h.lies h0
    exact ⟨g, off, cs, ha, hb.keep hk (hn g ⟨h0, _, ha, rfl⟩), hc⟩⟩
theorem MidB.keep0 (h : MidB w e a cap n l) (hk : Keeps Nil w w') : MidB w' e a cap n l := h.keep hk (fun _ _ h => h)
theorem MidB.lt (h : MidB w e a cap n l) : ∀ k, midOf a cap k → k < w.heap.size := fun k hk => by
  obtain ⟨g, off, cs, ha, hb, _⟩ := h.lies hk.1
  obtain ⟨ad, had, hk2⟩ := hk.2
  rw [ha] at had
  cases had
  rw [← hk2]; exact hb.lt
theorem MidB.new (w : World) (e : TypeId) : MidB w e none 0 0 [] := ⟨rfl, Nat.le_refl _, Nat.zero_le _, fun _ => rfl, fun h => by omega⟩
/-- A slice at the head of its block is one. -/
theorem Own.mid {l : List Int} (h : Own w e 1 a cap n (byteV l)) : MidB w e a cap n l := by
  obtain ⟨h1, h2, h3, h4⟩ := h
  have hl : l.length = n := by simpa [byteV] using h1
  refine ⟨hl, h2, h3, fun ha => ?_, fun h0 => ?_⟩
  · rcases h4 with ⟨_, _, h⟩ | ⟨g, sp, hg, _⟩
    · exact h
    · rw [ha] at hg; cases hg
  · rcases h4 with ⟨_, _, h⟩ | ⟨g, sp, hg, hb, hs⟩
    · omega
    · refine ⟨g, 0, byteV l ++ sp, hg, hb, by omega, fun j hj => ?_⟩
      rw [Nat.zero_add, List.getElem?_append_left (by simp [byteV]; omega)]
      simp [byteV, List.getD, show j < l.length by omega]
theorem MidB.row (h : MidB w e a cap n l) (hw : ∀ x ∈ l, (Lit.int .u8 x).wf = true) : Row .u8 w a n l := by
  have hm := h.most
  have hle := h.le
  unfold maxLen at hm
  refine ⟨h.len, by omega, fun hn => ?_, hw⟩
  obtain ⟨g, off, cs, ha, hb, _, hc⟩ := h.lies (by omega)
  exact ⟨g, off, ha, hb.lt, fun i hi => hb.cell (off + i) (hc i hi)⟩
/-- The first k of its elements. -/
theorem MidB.head (h : MidB w e a cap n l) (hw : ∀ x ∈ l, (Lit.int .u8 x).wf = true) (k : Nat) (hk : k ≤ n) : Row .u8 w a k (l.take k) := by
  have hr := h.row hw
  refine ⟨by rw [List.length_take, h.len]; omega, by have := hr.most; omega, fun h0 => ?_, fun x hx => hw x (List.mem_of_mem_take hx)⟩
  obtain ⟨b, off, ha, hb, hc⟩ := hr.cell (by omega)
  refine ⟨b, off, ha, hb, fun i hi => ?_⟩
  rw [hc i (by omega)]
  simp [List.getD, hi]
/-- What is behind the first k: there is more room. -/
theorem MidB.tail {ad : Addr} (h : MidB w e (some ad) cap n l) (k : Nat) (hk : k ≤ n) (hc : k < cap) : MidB w e (some (ad.add k)) (cap - k) (n - k) (l.drop k) := by
  have hm := h.most
  have hle := h.le
  refine ⟨by rw [List.length_drop, h.len], by omega, by omega, (fun h => by cases h), fun h0 => ?_⟩
  obtain ⟨g, off, cs, ha, hb, hl, hcc⟩ := h.lies (by omega)
  cases ha
  refine ⟨g, off + k, cs, by rw [Addr.add_lit], hb, by omega, fun j hj => ?_⟩
  rw [Nat.add_assoc, hcc (k + j) (by omega)]
  simp [List.getD]
/-- What is behind the first k: there is no more room. -/
theorem MidB.tail0 (h : MidB w e a cap n l) (hc : n = cap) : MidB w e a 0 0 (l.drop n) :=
  ⟨by rw [List.length_drop, h.len, Nat.sub_self], Nat.le_refl _, Nat.zero_le _, fun _ => rfl, fun h => by omega⟩
end

/-- append of nothing. -/
theorem run_append_zero {P : Program} (w : World) (t ty e : TypeId) (i : TypeInfo) (ht : P.underlying t = some (.slice e)) (hi : P.info? e = some i) (a : Option Addr) (n cap : Nat) (ao : Option Addr) (c : Nat) (hn : n ≤ cap) :
    (Builtin.append_ #[t, t] ty #[.slice a n cap, .slice ao 0 c]).run P w = .ok (.slice a n cap) w := by
  have hfc : (Builtin.firstCells i.size 0 (.slice ao 0 c)).run P w = .ok #[] w := by
    cases ao with
    | none => exact run_firstCells_none (P := P) w i.size 0 0 c
    | some b => exact run_firstCells_some (P := P) w i.size 0 b 0 c [] (by simp) (fun j v hv => by simp at hv)
  cases a with
  | none => simp [Builtin.append_, run_underlying ht, sizeOf, typeInfo, hi, Builtin.lenOf, hn, hfc]
  | some b => simp [Builtin.append_, run_underlying ht, sizeOf, typeInfo, hi, Builtin.lenOf, hn, hfc, storeCells]

theorem splice_before {cs vs : List Value} {o i : Nat} (h : i < o) (hl : o ≤ cs.length) : (splice cs o vs)[i]? = cs[i]? := by
  unfold splice
  rw [List.append_assoc, List.getElem?_append_left (by simp; omega)]
  simp [h]
theorem splice_in {cs vs : List Value} {o j : Nat} (h : j < vs.length) (hl : o ≤ cs.length) : (splice cs o vs)[o + j]? = vs[j]? := by
  unfold splice
  rw [List.append_assoc, List.getElem?_append_right (by simp; omega), List.getElem?_append_left (by simp; omega)]
  congr 1
  simp; omega

/-- append to such a slice, as a run. -/
theorem run_appendM {P : Program} (w : World) (t ty e : TypeId) (ht : P.underlying t = some (.slice e)) (hi : (P.info? e).map (fun i => (i.zero.map (·.cells.size), i.size, i.bytes)) = some (some 1, 1, 1))
    (a : Option Addr) (cap n : Nat) (l : List Int) (hown : MidB w e a cap n l) (ao : Option Addr) (m c : Nat) (news : List Int) (hsrc : Src w ao m c 1 (byteV news)) (hbytes : n + m ≤ 140737488355328) :
    ∃ a' cap' w', (Builtin.append_ #[t, t] ty #[.slice a n cap, .slice ao m c]).run P w = .ok (.slice a' (n + m) cap') w' ∧ MidB w' e a' cap' (n + m) (l ++ news) ∧ Keeps (midOf a cap) w w' ∧ (∀ k, midOf a' cap' k → midOf a cap k ∨ w.heap.size ≤ k) ∧ (n + m = 0 → a' = a ∧ cap' = cap) := by
  have h63 : n + m ≤ maxLen := by unfold maxLen; omega
  obtain ⟨i, hie, hp⟩ := Option.map_eq_some_iff.1 hi
  simp only [Prod.mk.injEq] at hp
  obtain ⟨hz, hs1, hb1⟩ := hp
  obtain ⟨z, hz1, hz2⟩ := Option.map_eq_some_iff.1 hz
  obtain ⟨hnl, h1c, hcase⟩ := hsrc
  have hml : news.length = m := by simpa [byteV] using hnl
  have hle := hown.le
  have hll := hown.len
  by_cases hm : m = 0
  · subst hm
    have hnews : news = [] := List.eq_nil_of_length_eq_zero hml
    subst hnews
    exact ⟨a, cap, w, run_append_zero (P := P) w t ty e i ht hie a n cap ao c hle, by simpa using hown, Keeps.refl _ _, fun k hk => .inl hk, fun _ => ⟨rfl, rfl⟩⟩
  · obtain ⟨ad, rfl, hc⟩ : ∃ ad, ao = some ad ∧ ∀ j u, (byteV news)[j]? = some u → w.cell? (ad.add j) = some u := by
      rcases hcase with ⟨_, h0, _⟩ | h'
      · exact (hm h0).elim
      · exact h'
    have grown : ∀ v' w', (Builtin.append_ #[t, t] ty #[.slice a n cap, .slice (some ad) m c]).run P w = .ok v' w' → w'.ownsRow w.heap.size e 1 v' (n + m) (byteV l ++ byteV news) → w.grownBy w' none →
        ∃ a' cap' w', (Builtin.append_ #[t, t] ty #[.slice a n cap, .slice (some ad) m c]).run P w = .ok (.slice a' (n + m) cap') w' ∧ MidB w' e a' cap' (n + m) (l ++ news) ∧ Keeps (midOf a cap) w w' ∧ (∀ k, midOf a' cap' k → midOf a cap k ∨ w.heap.size ≤ k) ∧ (n + m = 0 → a' = a ∧ cap' = cap) := fun v' w' h0 h1 h2 => by
      obtain ⟨g, cap', rfl, hgb, _⟩ := h1.form (by omega)
      have h3 := Own.of h1
      rw [show byteV l ++ byteV news = byteV (l ++ news) by simp [byteV]] at h3
      refine ⟨_, _, _, h0, h3.mid, (Keeps.refl _ _).of_grown h2 (fun k hk => by cases hk), (fun k hk => .inr ?_), fun h0 => by omega⟩
      rw [(blkOf_some _ _ _ _).1 hk.2]; exact hgb
    by_cases h0 : 0 < cap
    · obtain ⟨g, off, cs, rfl, hb, hl, hcc⟩ := hown.lies h0
      by_cases hr : n + m ≤ cap
      · have hrun := run_append_room_cells (P := P) w t ty e i ht hie g off n cap ad m c (byteV news) (by rw [hs1]; exact hnl) hc h1c hr
          (fun j hj => by rw [hs1, Nat.mul_one]; rw [hnl] at hj; rw [hb.cell (off + n + j) (v := cs[off + n + j]'(by omega)) (by simp [show off + n + j < cs.length by omega])]; rfl) (fun j hj => hb.frozen _)
        rw [hs1, Nat.mul_one] at hrun
        have hb' := hb.setCells (byteV news) (off + n) (by rw [hnl]; omega)
        refine ⟨_, _, _, hrun, ⟨by simp [hll, hml], hr, hown.most, (fun h => by cases h), fun _ => ⟨g, off, _, rfl, hb', by rw [splice_length _ _ _ (by rw [hnl]; omega)]; omega, fun j hj => ?_⟩⟩, (Keeps.setCells (g := g) (byteV news) (off + n) (Keeps.refl _ w)).mono (fun k hk => ⟨h0, _, rfl, (show k = g from hk).symm⟩), (fun k hk => .inl hk), fun h0 => by omega⟩
        by_cases hjn : j < n
        · rw [splice_before (by omega) (by omega), hcc j hjn]
          simp [List.getD, List.getElem?_append_left (show j < l.length by omega)]
        · obtain ⟨d, rfl⟩ : ∃ d, j = n + d := ⟨j - n, by omega⟩
          rw [← Nat.add_assoc, splice_in (by rw [hnl]; omega) (by omega)]
          simp [byteV, List.getD, List.getElem?_append_right, hll, show d < news.length by omega]
      · obtain ⟨v', w', hrun, r1, r2⟩ := run_append_arg_grows (P := P) w t ty e i z 1 1 ht hie hz1 hs1 hb1 hz2 (by omega) ⟨g, off, none⟩ n cap (byteV l) (by simp [byteV]; omega) (fun j u hj => by
          have hj2 : j < n := by have := (List.getElem?_eq_some_iff.1 hj).1; simp [byteV] at this; omega
          rw [Addr.add_lit]
          refine hb.cell (off + j) ?_
          rw [hcc j hj2, ← hj]
          simp [byteV, List.getD, show j < l.length by omega]) ad m c (byteV news) hnl hc (by omega) h63 (by omega)
        exact grown v' w' hrun r1 r2
    · have hl0 : l = [] := List.eq_nil_of_length_eq_zero (by omega)
      subst hl0
      have hn0 : n = 0 := by omega
      have hc0 : cap = 0 := by omega
      subst hn0 hc0
      cases a with
      | none =>
        obtain ⟨v', w', hrun, r1, r2, _⟩ := run_append_own (P := P) w w.heap.size t ty e i z 1 1 ht hie hz1 hs1 hb1 hz2 (by omega) (.slice none 0 0) 0 [] (World.ownsRow_nil w _ e 1) ad m c (byteV news) hnl hc h1c h63 (by omega) (Nat.le_refl _)
        exact grown v' w' hrun (by simpa [byteV] using r1) r2
      | some b =>
        obtain ⟨v', w', hrun, r1, r2⟩ := run_append_arg_grows (P := P) w t ty e i z 1 1 ht hie hz1 hs1 hb1 hz2 (by omega) b 0 0 [] (by simp) (fun j u hj => by simp at hj) ad m c (byteV news) hnl hc (by omega) h63 (by omega)
        exact grown v' w' hrun (by simpa [byteV] using r1) r2

section
variable {P : Program} {ops : Array Oper} {rest : List Oper} {o : Oper} {A : Act} {w : World} {Q : Exit → Act → World → Prop}
/-- append to such a slice. -/
theorem wpl_appendM (hg : o.guard = none) (s x : Operand) (t : TypeId) (ho : o.op = .call { callee := .builtin .append, args := #[s, x], argTypes := #[t, t] })
    (e : TypeId) (ht : P.underlying t = some (.slice e)) (hi : (P.info? e).map (fun i => (i.zero.map (·.cells.size), i.size, i.bytes)) = some (some 1, 1, 1))
    (a : Option Addr) (cap n : Nat) (l : List Int) (hs : A.eval s = .slice a n cap) (hown : MidB w e a cap n l)
    (ao : Option Addr) (m c : Nat) (news : List Int) (hx : A.eval x = .slice ao m c) (hsrc : Src w ao m c 1 (byteV news)) (hbytes : n + m ≤ 140737488355328)
    (h : ∀ a' cap' w', MidB w' e a' cap' (n + m) (l ++ news) → Keeps (midOf a cap) w w' → (∀ k, midOf a' cap' k → midOf a cap k ∨ w.heap.size ≤ k) → (n + m = 0 → a' = a ∧ cap' = cap) → wpList P ops Q rest (A.put o.dst (.slice a' (n + m) cap')) w') :
    wpList P ops Q (o :: rest) A w := by
  obtain ⟨a', cap', w', hrun, h1, h2, h3, h4⟩ := run_appendM (P := P) w t o.type e ht hi a cap n l hown ao m c news hsrc hbytes
  refine wpList_plain hg fun K hK' => ?_
  unfold Oper.wp
  simp [execOp, ho, resolve, invoke, builtin, hs, hx, hrun, Result.andThen]
  exact hK' _ _ (h a' cap' w' h1 h2 h3 h4)
/-- The same inside a region that draws its order. -/
theorem step_appendM {K : Act → World → Prop} {E : Prop} (hg : o.guard = none) (s x : Operand) (t : TypeId) (ho : o.op = .call { callee := .builtin .append, args := #[s, x], argTypes := #[t, t] })
    (e : TypeId) (ht : P.underlying t = some (.slice e)) (hi : (P.info? e).map (fun i => (i.zero.map (·.cells.size), i.size, i.bytes)) = some (some 1, 1, 1))
    (a : Option Addr) (cap n : Nat) (l : List Int) (hs : A.eval s = .slice a n cap) (hown : MidB w e a cap n l)
    (ao : Option Addr) (m c : Nat) (news : List Int) (hx : A.eval x = .slice ao m c) (hsrc : Src w ao m c 1 (byteV news)) (hbytes : n + m ≤ 140737488355328)
    (h : ∀ a' cap' w', MidB w' e a' cap' (n + m) (l ++ news) → Keeps (midOf a cap) w w' → (∀ k, midOf a' cap' k → midOf a cap k ∨ w.heap.size ≤ k) → (n + m = 0 → a' = a ∧ cap' = cap) → K (A.put o.dst (.slice a' (n + m) cap')) w') :
    if Region.wanted o (yielded ops A.tmps) = true then Oper.wp P o A w K Q else E := by
  have hw : Region.wanted o (yielded ops A.tmps) = true := by simp [Region.wanted, hg]
  rw [if_pos hw]
  obtain ⟨a', cap', w', hrun, h1, h2, h3, h4⟩ := run_appendM (P := P) w t o.type e ht hi a cap n l hown ao m c news hsrc hbytes
  unfold Oper.wp
  simp [execOp, ho, resolve, invoke, builtin, hs, hx, hrun, Result.andThen]
  exact h a' cap' w' h1 h2 h3 h4
/-- An empty slice literal inside a region that draws its order. -/
theorem step_bs0 {K : Act → World → Prop} {E : Prop} (hg : o.guard = none) (t e : TypeId) (ho : o.op = .buildSlice t 0 #[]) (hu : P.underlying t = some (.slice e)) (hi : ((P.info? e).map (·.size)).isSome = true)
    (h : ∀ w', MidB w' e (some ⟨w.heap.size, 0, none⟩) 0 0 [] → Keeps Nil w w' → K (A.put o.dst (.slice (some ⟨w.heap.size, 0, none⟩) 0 0)) w') : if Region.wanted o (yielded ops A.tmps) = true then Oper.wp P o A w K Q else E := by
  have hw : Region.wanted o (yielded ops A.tmps) = true := by simp [Region.wanted, hg]
  rw [if_pos hw]
  obtain ⟨i, hie⟩ := Option.isSome_iff_exists.1 hi
  obtain ⟨i, hie, _⟩ := Option.map_eq_some_iff.1 hie
  unfold Oper.wp execOp
  have hr : (Instr.buildSlice t 0 #[]).run P w = .ok (.slice (some ⟨w.heap.size, 0, none⟩) 0 0) (w.alloc (.cells #[] e)) := by
    have he : (Array.range 0).map (fun (_ : Nat) => (default : Value)) = #[] := Array.eq_empty_of_size_eq_zero (by simp)
    simp [Instr.buildSlice, run_underlying hu, sizeOf, typeInfo, hie, newRow, Instr.fill, he]
  have hr' : (Instr.buildSlice t 0 ((#[] : Array (Nat × Operand)).map fun (i, x) => (i, A.eval x))).run P w = .ok (.slice (some ⟨w.heap.size, 0, none⟩) 0 0) (w.alloc (.cells #[] e)) := by simpa using hr
  simp only [ho, Sem.run_bind, hr', Result.andThen_ok]
  exact h _ ⟨rfl, Nat.le_refl _, Nat.zero_le _, (fun h => by cases h), fun h => by omega⟩ ((Keeps.refl _ _).alloc _)
end
end Go.Proofs.YtkefbgkdkmkghaaDoor
