/-
  Steps inside regions that draw their order. No program in sight but for the model's own. (For seats without the digests' texts.)
-/
import Derived.Test.YtkefbgkdkmkghaaDoorB0
namespace Go.Proofs.YtkefbgkdkmkghaaDoor
set_option linter.unusedSimpArgs false
set_option linter.unusedVariables false
open Go.RowKit

theorem step_bs {P : Program} {ops : Array Oper} {o : Oper} {a : Act} {w : World} {K : Act → World → Prop} {Q : Exit → Act → World → Prop} {E : Prop} (hw : Region.wanted o (yielded ops a.tmps) = true) (t e : TypeId) (len : Nat) (parts : Array (Nat × Operand)) (ho : o.op = .buildSlice t len parts)
    (vs : List Value) (hu : P.underlying t = some (.slice e)) (hsz : (P.info? e).map (fun i => (i.size, i.zero.isSome)) = some (1, true)) (hlen : len = vs.length) (hpos : 0 < len) (hsmall : len ≤ 2 ^ 24)
    (hparts : (parts.map fun (i, x) => (i, a.eval x)).toList = (vs.zipIdx 0).map fun x => (x.2, x.1)) (hv : ∀ v ∈ vs, v.cells = #[v])
    (h : K (a.put o.dst (.slice (some ⟨w.heap.size, 0, none⟩) len len)) (w.alloc (.cells vs.toArray e))) : if Region.wanted o (yielded ops a.tmps) = true then Oper.wp P o a w K Q else E := by
  rw [if_pos hw]
  obtain ⟨ie, hie, hs⟩ := Option.map_eq_some_iff.1 hsz
  simp only [Prod.mk.injEq] at hs
  obtain ⟨z, hz⟩ := Option.isSome_iff_exists.1 hs.2
  refine wp_buildSlice t e len parts ho _ ie z hu hie hz (by rw [hs.1]; omega) (by rw [hs.1]; omega) ?_ h
  rw [hparts, hs.1]
  exact Great.fill_flat _ _ hv (by simp [hlen])
theorem step_bsK {P : Program} {ops : Array Oper} {o : Oper} {a : Act} {w : World} {K : Act → World → Prop} {Q : Exit → Act → World → Prop} {E : Prop} (hw : Region.wanted o (yielded ops a.tmps) = true) (t e : TypeId) (len : Nat) (parts : Array (Nat × Operand)) (ho : o.op = .buildSlice t len parts)
    (vs : List Value) (hu : P.underlying t = some (.slice e)) (hsz : (P.info? e).map (fun i => (i.size, i.zero.isSome)) = some (1, true)) (hlen : len = vs.length) (hpos : 0 < len) (hsmall : len ≤ 2 ^ 24)
    (hparts : (parts.map fun (i, x) => (i, a.eval x)).toList = (vs.zipIdx 0).map fun x => (x.2, x.1)) (hv : ∀ v ∈ vs, v.cells = #[v])
    (h : ∀ g w', g = w.heap.size → Blk w' g vs e → Keeps Nil w w' → K (a.put o.dst (.slice (some ⟨g, 0, none⟩) len len)) w') : if Region.wanted o (yielded ops a.tmps) = true then Oper.wp P o a w K Q else E :=
  step_bs hw t e len parts ho vs hu hsz hlen hpos hsmall hparts hv (h _ _ rfl (Blk.new _ _ _) ((Keeps.refl _ _).alloc _))
theorem yieldsIf_bin {P : Program} {ops : Array Oper} {S : World → Prop} {o : Oper} {a : Act} (hw : Region.wanted o (yielded ops a.tmps) = true) (op : BinOp) (t : TypeId) (x y : Operand) (t' : TypeId) (ho : o.op = .binOp op t x y t') (vx vy : Value) (hx : a.eval x = vx) (hy : a.eval y = vy)
    (v : Value) (hr : ∀ w, (binOp op t vx vy).run P w = .ok v w) (hg : ∀ w, (eqGuard op t x y vx vy).run P w = .ok () w) : YieldsIf P ops S o v a :=
  .inl ⟨hw, fun w _ => by
    unfold execOp
    simp only [ho, hx, hy, Sem.run_bind, hr, hg, Result.andThen_ok]
    rfl⟩
theorem step_allocK {P : Program} {ops : Array Oper} {o : Oper} {a : Act} {w : World} {K : Act → World → Prop} {Q : Exit → Act → World → Prop} {E : Prop} (hw : Region.wanted o (yielded ops a.tmps) = true) (t : TypeId) (ho : o.op = .alloc t) (Z : List Value) (hz : ∀ w, (zeroValue t).run P w = .ok (.agg Z.toArray) w)
    (h : ∀ g w', g = w.heap.size → Blk w' g Z t → Keeps Nil w w' → K (a.put o.dst (.pointer (some ⟨g, 0, none⟩))) w') : if Region.wanted o (yielded ops a.tmps) = true then Oper.wp P o a w K Q else E := by
  rw [if_pos hw]
  have h1 := h _ _ rfl (Blk.new w Z t) ((Keeps.refl _ _).alloc _)
  unfold Oper.wp execOp
  simp [ho, Instr.alloc, hz, go_sem]
  exact h1
theorem alloc2 (w : World) (c1 : List Value) (T1 : TypeId) (c2 : List Value) (T2 : TypeId) : ∃ wA, wA = (w.alloc (.cells c1.toArray T1)).alloc (.cells c2.toArray T2) ∧ Blk wA w.heap.size c1 T1 ∧ Blk wA (w.heap.size + 1) c2 T2 ∧ Keeps Nil w wA ∧ wA.heap.size = w.heap.size + 1 + 1 :=
  ⟨_, rfl, (Blk.new w c1 _).alloc _, Blk.new' _ c2 _ (Array.size_push _).symm, ((Keeps.refl Nil w).alloc _).alloc _, by rw [size_alloc', size_alloc']⟩
theorem alloc3 (w : World) (c1 : List Value) (T1 : TypeId) (c2 : List Value) (T2 : TypeId) (c3 : List Value) (T3 : TypeId) : ∃ wA, wA = ((w.alloc (.cells c1.toArray T1)).alloc (.cells c2.toArray T2)).alloc (.cells c3.toArray T3) ∧ Blk wA w.heap.size c1 T1 ∧ Blk wA (w.heap.size + 1) c2 T2 ∧ Blk wA (w.heap.size + 1 + 1) c3 T3 ∧ Keeps Nil w wA ∧ wA.heap.size = w.heap.size + 1 + 1 + 1 := by
  obtain ⟨wB, hB, h1, h2, hk, hs⟩ := alloc2 w c1 T1 c2 T2
  subst hB
  exact ⟨_, rfl, h1.alloc _, h2.alloc _, Blk.new' _ c3 _ hs.symm, hk.alloc _, by rw [size_alloc', hs]⟩
theorem wpl_bin {P : Program} {ops : Array Oper} {rest : List Oper} {o : Oper} {a : Act} {w : World} {Q : Exit → Act → World → Prop} (hw : Region.wanted o (yielded ops a.tmps) = true) (op : BinOp) (t : TypeId) (x y : Operand) (t' : TypeId) (ho : o.op = .binOp op t x y t') (vx vy : Value) (hx : a.eval x = vx) (hy : a.eval y = vy)
    (v : Value) (hr : ∀ w, (binOp op t vx vy).run P w = .ok v w) (hg : ∀ w, (eqGuard op t x y vx vy).run P w = .ok () w) (h : wpList P ops Q rest (a.put o.dst v) w) : wpList P ops Q (o :: rest) a w :=
  wpList_go hw fun _ hK => by
    unfold Oper.wp execOp
    simp only [ho, hx, hy, Sem.run_bind, hr, hg, Result.andThen_ok]
    exact hK _ _ h
theorem step_load {P : Program} {ops : Array Oper} {o : Oper} {a : Act} {w : World} {K : Act → World → Prop} {Q : Exit → Act → World → Prop} {E : Prop} (hw : Region.wanted o (yielded ops a.tmps) = true) (ty : TypeId) (x : Operand) (ho : o.op = .load ty x) (g off : Nat) (hx : a.eval x = .pointer (some ⟨g, off, none⟩))
    (cs : List Value) (hc : w.rangeAt g off cs) (d : TypeDesc) (hu : P.underlying ty = some d) (hd : d.isRow = true) (hi : (P.info? ty).map (·.size) = some cs.length)
    (h : K (a.put o.dst (.agg cs.toArray)) w) : if Region.wanted o (yielded ops a.tmps) = true then Oper.wp P o a w K Q else E := by
  rw [if_pos hw]
  exact wp_load_mid ty x ho g off hx cs d hc hu hd hi h
theorem step_W {P : Program} {ops : Array Oper} {o : Oper} {a : Act} {w : World} {K : Act → World → Prop} {Q : Exit → Act → World → Prop} {E : Prop} (hw : Region.wanted o (yielded ops a.tmps) = true)
    (h : if Region.wanted { o with guard := none } (yielded ops a.tmps) = true then Oper.wp P { o with guard := none } a w K Q else True) : if Region.wanted o (yielded ops a.tmps) = true then Oper.wp P o a w K Q else E := by
  rw [if_pos hw]
  have h2 : Region.wanted { o with guard := none } (yielded ops a.tmps) = true := by simp [Region.wanted]
  rw [if_pos h2] at h
  exact h
theorem step_appendO {P : Program} {ops : Array Oper} {o : Oper} {a : Act} {w : World} {K : Act → World → Prop} {Q : Exit → Act → World → Prop} {E : Prop} (hg : o.guard = none) (s x : Operand) (t : TypeId) (ho : o.op = .call { callee := .builtin .append, args := #[s, x], argTypes := #[t, t] })
    (e : TypeId) (size bytes : Nat) (ht : P.underlying t = some (.slice e)) (hi : (P.info? e).map (fun i => (i.zero.map (·.cells.size), i.size, i.bytes)) = some (some size, size, bytes)) (hsz : 0 < size)
    (ad : Option Addr) (cap n : Nat) (xs : List Value) (hs : a.eval s = .slice ad n cap) (hown : Own w e size ad cap n xs)
    (ao : Option Addr) (m c : Nat) (news : List Value) (hx : a.eval x = .slice ao m c) (hsrc : Src w ao m c size news) (h63 : n + m ≤ maxLen) (hbytes : (n + m) * bytes ≤ 140737488355328)
    (h : ∀ a' cap' w', Own w' e size a' cap' (n + m) (xs ++ news) → Keeps (blkOf ad) w w' → (∀ k, blkOf a' k → blkOf ad k ∨ k = w.heap.size) → K (a.put o.dst (.slice a' (n + m) cap')) w') :
    if Region.wanted o (yielded ops a.tmps) = true then Oper.wp P o a w K Q else E := by
  by_cases hm : m = 0
  · subst hm
    have hnews : news = [] := List.eq_nil_of_length_eq_zero (by simpa using hsrc.1)
    subst hnews
    have hw : Region.wanted o (yielded ops a.tmps) = true := by simp [Region.wanted, hg]
    rw [if_pos hw]
    obtain ⟨i, hie, _⟩ := Option.map_eq_some_iff.1 hi
    have hrun := run_append_zero (P := P) w t o.type e i ht hie ad n cap ao c hown.2.1
    unfold Oper.wp
    simp [execOp, ho, resolve, invoke, builtin, hs, hx, hrun, Result.andThen]
    exact h ad cap w (by simpa using hown) (Keeps.refl _ _) (fun k hk => .inl hk)
  · have hsrc' := hsrc
    obtain ⟨_, _, hc⟩ := hsrc
    rcases hc with ⟨_, h0, _⟩ | ⟨ad', rfl, _⟩
    · exact (hm h0).elim
    · exact step_append hg s x t ho e size bytes ht hi hsz ad cap n xs hs hown ad' m c news hx hsrc' (by omega) h63 hbytes (fun g cap' w' h1 h2 h3 => h _ cap' w' h1 h2 (fun k hk => by rw [(blkOf_some _ _ _ _).1 hk]; exact h3))
theorem step_bs0O {P : Program} {ops : Array Oper} {o : Oper} {a : Act} {w : World} {K : Act → World → Prop} {Q : Exit → Act → World → Prop} {E : Prop} (hg : o.guard = none) (t e : TypeId) (ho : o.op = .buildSlice t 0 #[])
    (hu : P.underlying t = some (.slice e)) (hi : ((P.info? e).map (·.size)).isSome = true) (size : Nat)
    (h : ∀ g w', g = w.heap.size → Own w' e size (some ⟨g, 0, none⟩) 0 0 [] → Keeps Nil w w' → K (a.put o.dst (.slice (some ⟨g, 0, none⟩) 0 0)) w') : if Region.wanted o (yielded ops a.tmps) = true then Oper.wp P o a w K Q else E := by
  have hw : Region.wanted o (yielded ops a.tmps) = true := by simp [Region.wanted, hg]
  rw [if_pos hw]
  obtain ⟨i, hie⟩ := Option.isSome_iff_exists.1 hi
  obtain ⟨i, hie, _⟩ := Option.map_eq_some_iff.1 hie
  have hr : (Instr.buildSlice t 0 #[]).run P w = .ok (.slice (some ⟨w.heap.size, 0, none⟩) 0 0) (w.alloc (.cells #[] e)) := by
    have he : (Array.range 0).map (fun (_ : Nat) => (default : Value)) = #[] := Array.eq_empty_of_size_eq_zero (by simp)
    simp [Instr.buildSlice, run_underlying hu, sizeOf, typeInfo, hie, newRow, Instr.fill, he]
  have hr' : (Instr.buildSlice t 0 ((#[] : Array (Nat × Operand)).map fun (i, x) => (i, a.eval x))).run P w = .ok (.slice (some ⟨w.heap.size, 0, none⟩) 0 0) (w.alloc (.cells #[] e)) := by simpa using hr
  unfold Oper.wp execOp
  simp only [ho, Sem.run_bind, hr', Result.andThen_ok]
  exact h _ _ rfl ⟨by simp, Nat.le_refl _, Nat.zero_le _, .inr ⟨w.heap.size, [], rfl, Blk.new w [] e, by simp⟩⟩ ((Keeps.refl _ _).alloc _)
/-- A store of a slice inside a region that draws its order. -/
theorem step_storeS {P : Program} {ops : Array Oper} {o : Oper} {a : Act} {w : World} {K : Act → World → Prop} {Q : Exit → Act → World → Prop} {E : Prop} (hgd : o.guard = none) (ty : TypeId) (hi : (P.info? ty).map (·.size) = some 1) (x y : Operand) (ho : o.op = .store ty x y) (g i : Nat) (hx : a.eval x = .pointer (some ⟨g, i, none⟩))
    (q : Option Addr) (l c : Nat) (hy : a.eval y = .slice q l c) {old : Value} (hc : w.cell? ⟨g, i, none⟩ = some old) (hz : w.frozen? ⟨g, i, none⟩ = false)
    (h : K (a.put o.dst undef) (w.setCell ⟨g, i, none⟩ (.slice q l c))) : if Region.wanted o (yielded ops a.tmps) = true then Oper.wp P o a w K Q else E := by
  have hw : Region.wanted o (yielded ops a.tmps) = true := by simp [Region.wanted, hgd]
  rw [if_pos hw]
  have hr : (Instr.storeAt ty (.pointer (some ⟨g, i, none⟩)) (.slice q l c)).run P w = .ok () (w.setCell ⟨g, i, none⟩ (.slice q l c)) := by
    obtain ⟨ie, hie, hs⟩ := Option.map_eq_some_iff.1 hi
    simp [Instr.storeAt, Instr.sureAddr, go_sem, sizeOf, typeInfo, hie, hs, hc, hz]
  unfold Oper.wp
  simp [execOp, ho, hx, hy, hr]
  exact h
end Go.Proofs.YtkefbgkdkmkghaaDoor
