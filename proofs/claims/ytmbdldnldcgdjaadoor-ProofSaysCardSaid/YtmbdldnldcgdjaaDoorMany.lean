/-
  Arrays as slices of bytes; slices of such slices; slice literals inside a region that draws its order.
-/
import Derived.Test.YtmbdldnldcgdjaaDoorShaFirst
import Derived.Test.YtmbdldnldcgdjaaDoorCopy
namespace Go.Proofs.YtmbdldnldcgdjaaDoor
set_option linter.unusedSimpArgs false
set_option linter.unusedVariables false
open Go.RowKit

theorem areB_wf {l : List Int} (h : AreB l) : ∀ x ∈ l, (Lit.int .u8 x).wf = true := fun x hx => wf_u8 (h x hx).1 (h x hx).2
theorem wf_areB {l : List Int} (h : ∀ x ∈ l, (Lit.int .u8 x).wf = true) : AreB l := fun x hx => by have := u8_wf (h x hx); omega
theorem areB_append {l r : List Int} (h : AreB l) (k : AreB r) : AreB (l ++ r) := fun x hx => (List.mem_append.1 hx).elim (h x) (k x)
theorem areB_zeros (n : Nat) : AreB (List.replicate n 0) := fun x hx => by rw [(List.mem_replicate.1 hx).2]; omega
theorem Row.bytes {w : World} {a : Option Addr} {n : Nat} {l : List Int} (h : Row .u8 w a n l) : AreB l := wf_areB h.wf
/-- A block of bytes as a slice. -/
theorem Blk.row8 {w : World} {g n : Nat} {l : List Int} {T : TypeId} (h : Blk w g (byteV l) T) (hw : AreB l) (hl : l.length = n) (hm : n ≤ 1000000) : Row .u8 w (some ⟨g, 0, none⟩) n l :=
  ⟨hl, by omega, fun _ => ⟨g, 0, rfl, h.lt, fun i hi => by
    rw [Nat.zero_add]
    refine h.cell i ?_
    simp [byteV, List.getD, show i < l.length by omega]⟩, areB_wf hw⟩
/-- A part of it. -/
theorem Blk.row8_part {w : World} {g n m : Nat} {l : List Int} {T : TypeId} (h : Blk w g (byteV l) T) (hw : AreB l) (o : Nat) (hl : o + n ≤ l.length) (hm : n ≤ 1000000) (hn : m = n) : Row .u8 w (some ⟨g, o, none⟩) m ((l.drop o).take n) := by
  subst hn
  refine ⟨by simp; omega, by omega, fun _ => ⟨g, o, rfl, h.lt, fun i hi => ?_⟩, areB_wf (fun x hx => hw x (List.mem_of_mem_drop (List.mem_of_mem_take hx)))⟩
  refine h.cell (o + i) ?_
  simp [byteV, List.getD, List.getElem?_take, hi, show o + i < l.length by omega]
/-- Bytes at the head of a block. -/
theorem Blk.rowPre {w : World} {g n : Nat} {l : List Int} {sp : List Value} {T : TypeId} (h : Blk w g (byteV l ++ sp) T) (hw : AreB l) (hl : l.length = n) (hm : n ≤ 1000000) : Row .u8 w (some ⟨g, 0, none⟩) n l :=
  ⟨hl, by omega, fun _ => ⟨g, 0, rfl, h.lt, fun i hi => by
    rw [Nat.zero_add]
    refine h.cell i ?_
    rw [List.getElem?_append_left (by simp [byteV]; omega)]
    simp [byteV, List.getD, show i < l.length by omega]⟩, areB_wf hw⟩
theorem Row.empty (k : IntKind) (w : World) (a : Option Addr) : Row k w a 0 [] := ⟨rfl, by omega, fun h => by omega, fun x hx => by cases hx⟩
/-- The first m. -/
theorem Row.head {k : IntKind} {w : World} {a : Option Addr} {n : Nat} {l : List Int} (h : Row k w a n l) {m : Nat} (hm : m ≤ n) : Row k w a m (l.take m) :=
  ⟨by rw [List.length_take, h.llen]; omega, by have := h.most; omega, fun h0 => by
    obtain ⟨b, off, ha, hb, hc⟩ := h.cell (by omega)
    exact ⟨b, off, ha, hb, fun i hi => by rw [hc i (by omega)]; simp [List.getD, hi]⟩, fun x hx => h.wf x (List.mem_of_mem_take hx)⟩
/-- All but the first m. -/
theorem Row.tail {k : IntKind} {w : World} {ad : Addr} {n : Nat} {l : List Int} (h : Row k w (some ad) n l) (m : Nat) (hm : m ≤ n) : Row k w (some (ad.add m)) (n - m) (l.drop m) :=
  ⟨by rw [List.length_drop, h.llen], by have := h.most; omega, fun h0 => by
    obtain ⟨b, off, ha, hb, hc⟩ := h.cell (by omega)
    cases ha
    refine ⟨b, off + m, by rw [Addr.add_lit], hb, fun i hi => ?_⟩
    rw [Nat.add_assoc, hc (m + i) (by omega)]
    simp [List.getD], fun x hx => h.wf x (List.mem_of_mem_drop hx)⟩
theorem Own.openB {w : World} {e : TypeId} {a : Option Addr} {cap n : Nat} {l : List Int} (h : Own w e 1 a cap n (byteV l)) (hn : 0 < n) : ∃ g sp, a = Option.some ⟨g, 0, none⟩ ∧ Blk w g (byteV l ++ sp) e ∧ (byteV l ++ sp).length = cap := by
  obtain ⟨_, _, _, h4⟩ := h
  rcases h4 with ⟨_, h5, _⟩ | ⟨g, sp, h5, hb, hl⟩
  · omega
  · exact ⟨g, sp, h5, hb, by omega⟩
theorem Own.nilB {w : World} {e : TypeId} {a : Option Addr} {cap n : Nat} {xs : List Value} (h : Own w e 1 a cap n xs) (ha : a = none) : cap = 0 ∧ n = 0 := by
  obtain ⟨_, _, _, h4⟩ := h
  rcases h4 with ⟨_, h5, h6⟩ | ⟨g, sp, h5, _⟩
  · exact ⟨h6, h5⟩
  · rw [h5] at ha; cases ha
theorem byteV_set' (l : List Int) (sp : List Value) (i : Nat) (x : Int) (h : i < l.length) : (byteV l ++ sp).set i (.int .u8 x) = byteV (l.set i x) ++ sp := by
  rw [List.set_append_left _ _ (by simp [byteV]; exact h)]
  simp [byteV, List.map_set]
theorem areB_set {l : List Int} (h : AreB l) (i : Nat) {x : Int} (hx : 0 ≤ x ∧ x < 256) : AreB (l.set i x) := fun y hy => by
  rcases List.mem_or_eq_of_mem_set hy with h' | h'
  · exact h y h'
  · rw [h']; exact hx
/-- A slice and what it holds. -/
abbrev Piece := Option Addr × Nat × Nat × List Int
def PieceOk (w : World) (x : Piece) : Prop := Row .u8 w x.1 x.2.1 x.2.2.2 ∧ (x.1 = none → x.2.2.1 = 0 ∧ x.2.1 = 0)
theorem PieceOk.keep {w w' : World} {x : Piece} (h : PieceOk w x) (hk : Keeps Nil w w') : PieceOk w' x := ⟨h.1.keep hk, h.2⟩
theorem PieceOk.some {w : World} {ad : Addr} {n c : Nat} {l : List Int} (h : Row .u8 w (Option.some ad) n l) : PieceOk w (Option.some ad, n, c, l) := ⟨h, fun h => by cases h⟩
theorem PieceOk.none (w : World) : PieceOk w (Option.none, 0, 0, []) := ⟨row_none w, fun _ => ⟨rfl, rfl⟩⟩
theorem ManyB.list {w : World} {g : Nat} {T : TypeId} (xs : List Piece) (hb : Blk w g (xs.map fun x => .slice x.1 x.2.1 x.2.2.1) T) (hx : ∀ x ∈ xs, PieceOk w x) (hm : xs.length ≤ 1000000) : ManyB w (some ⟨g, 0, none⟩) xs.length (xs.map (·.2.2.2)) :=
  ⟨by simp, hm, fun _ => ⟨g, 0, rfl, fun i hi => by
    have hxi := hx xs[i] (List.getElem_mem hi)
    refine ⟨xs[i].1, xs[i].2.1, xs[i].2.2.1, ?_, ?_, hxi.2⟩
    · rw [Nat.zero_add]
      exact hb.cell i (by simp [hi])
    · simpa [List.getD, hi] using hxi.1⟩⟩
theorem ManyB.one' {w : World} {g n c : Nat} {a : Option Addr} {l : List Int} {T : TypeId} (hb : Blk w g [.slice a n c] T) (h : PieceOk w (a, n, c, l)) : ManyB w (some ⟨g, 0, none⟩) 1 [l] := ManyB.one hb h.1 h.2
theorem ManyB.two {w : World} {g n1 c1 n2 c2 : Nat} {a1 a2 : Option Addr} {l1 l2 : List Int} {T : TypeId} (hb : Blk w g [.slice a1 n1 c1, .slice a2 n2 c2] T) (h1 : PieceOk w (a1, n1, c1, l1)) (h2 : PieceOk w (a2, n2, c2, l2)) : ManyB w (some ⟨g, 0, none⟩) 2 [l1, l2] :=
  ManyB.list [(a1, n1, c1, l1), (a2, n2, c2, l2)] hb (fun x hx => by rcases List.mem_cons.1 hx with rfl | hx; exact h1; rw [List.mem_singleton.1 hx]; exact h2) (by simp)
theorem ManyB.three {w : World} {g n1 c1 n2 c2 n3 c3 : Nat} {a1 a2 a3 : Option Addr} {l1 l2 l3 : List Int} {T : TypeId} (hb : Blk w g [.slice a1 n1 c1, .slice a2 n2 c2, .slice a3 n3 c3] T) (h1 : PieceOk w (a1, n1, c1, l1)) (h2 : PieceOk w (a2, n2, c2, l2)) (h3 : PieceOk w (a3, n3, c3, l3)) : ManyB w (some ⟨g, 0, none⟩) 3 [l1, l2, l3] :=
  ManyB.list [(a1, n1, c1, l1), (a2, n2, c2, l2), (a3, n3, c3, l3)] hb (fun x hx => by
    rcases List.mem_cons.1 hx with rfl | hx
    · exact h1
    · rcases List.mem_cons.1 hx with rfl | hx
      · exact h2
      · rw [List.mem_singleton.1 hx]; exact h3) (by simp)
theorem Tryd.bsSl : (Tryd.prog.info? 65).map (fun i => (i.size, i.zero.isSome)) = some (1, true) := by kernel_rfl

/-- A slice literal whose elements have one cell each, inside a region that draws its order. -/
theorem step_bs {P : Program} {ops : Array Oper} {o : Oper} {a : Act} {w : World} {K : Act → World → Prop} {Q : Exit → Act → World → Prop} {E : Prop} (hw : Region.wanted o (yielded ops a.tmps) = true) (t e : TypeId) (len : Nat) (parts : Array (Nat × Operand)) (ho : o.op = .buildSlice t len parts)
    (vs : List Value) (hu : P.underlying t = some (.slice e)) (hsz : (P.info? e).map (fun i => (i.size, i.zero.isSome)) = some (1, true)) (hlen : len = vs.length) (hpos : 0 < len) (hsmall : len ≤ 2 ^ 24)
    (hparts : (parts.map fun (i, x) => (i, a.eval x)).toList = (vs.zipIdx 0).map fun x => (x.2, x.1)) (hv : ∀ v ∈ vs, v.cells = #[v])
    (h : K (a.put o.dst (.slice (some ⟨w.heap.size, 0, none⟩) len len)) (w.alloc (.cells vs.toArray e))) : if Region.wanted o (yielded ops a.tmps) = true then Oper.wp P o a w K Q else E := by
  rw [if_pos hw]
  obtain ⟨ie, hie, hs⟩ := Option.map_eq_some_iff.1 hsz
  simp only [Prod.mk.injEq] at hs
  obtain ⟨z, hz⟩ := Option.isSome_iff_exists.1 hs.2
  refine wp_buildSlice t e len parts ho _ ie z hu hie hz (by rw [hs.1]; omega) (by rw [hs.1]; omega) ?_ h
  rw [hparts, hs.1]
  exact Great.fill_flat _ _ hv (by simp [hlen])
/-- The same, the world behind it a letter. -/
theorem step_bsK {P : Program} {ops : Array Oper} {o : Oper} {a : Act} {w : World} {K : Act → World → Prop} {Q : Exit → Act → World → Prop} {E : Prop} (hw : Region.wanted o (yielded ops a.tmps) = true) (t e : TypeId) (len : Nat) (parts : Array (Nat × Operand)) (ho : o.op = .buildSlice t len parts)
    (vs : List Value) (hu : P.underlying t = some (.slice e)) (hsz : (P.info? e).map (fun i => (i.size, i.zero.isSome)) = some (1, true)) (hlen : len = vs.length) (hpos : 0 < len) (hsmall : len ≤ 2 ^ 24)
    (hparts : (parts.map fun (i, x) => (i, a.eval x)).toList = (vs.zipIdx 0).map fun x => (x.2, x.1)) (hv : ∀ v ∈ vs, v.cells = #[v])
    (h : ∀ g w', g = w.heap.size → Blk w' g vs e → Keeps Nil w w' → K (a.put o.dst (.slice (some ⟨g, 0, none⟩) len len)) w') : if Region.wanted o (yielded ops a.tmps) = true then Oper.wp P o a w K Q else E :=
  step_bs hw t e len parts ho vs hu hsz hlen hpos hsmall hparts hv (h _ _ rfl (Blk.new _ _ _) ((Keeps.refl _ _).alloc _))
/-- A binary operation whose run is known yields its value. -/
theorem yieldsIf_bin {P : Program} {ops : Array Oper} {S : World → Prop} {o : Oper} {a : Act} (hw : Region.wanted o (yielded ops a.tmps) = true) (op : BinOp) (t : TypeId) (x y : Operand) (t' : TypeId) (ho : o.op = .binOp op t x y t') (vx vy : Value) (hx : a.eval x = vx) (hy : a.eval y = vy)
    (v : Value) (hr : ∀ w, (binOp op t vx vy).run P w = .ok v w) (hg : ∀ w, (eqGuard op t x y vx vy).run P w = .ok () w) : YieldsIf P ops S o v a :=
  .inl ⟨hw, fun w _ => by
    unfold execOp
    simp only [ho, hx, hy, Sem.run_bind, hr, hg, Result.andThen_ok]
    rfl⟩
/-- A variable is made inside a region that draws its order. -/
theorem step_allocK {P : Program} {ops : Array Oper} {o : Oper} {a : Act} {w : World} {K : Act → World → Prop} {Q : Exit → Act → World → Prop} {E : Prop} (hw : Region.wanted o (yielded ops a.tmps) = true) (t : TypeId) (ho : o.op = .alloc t) (Z : List Value) (hz : ∀ w, (zeroValue t).run P w = .ok (.agg Z.toArray) w)
    (h : ∀ g w', g = w.heap.size → Blk w' g Z t → Keeps Nil w w' → K (a.put o.dst (.pointer (some ⟨g, 0, none⟩))) w') : if Region.wanted o (yielded ops a.tmps) = true then Oper.wp P o a w K Q else E := by
  rw [if_pos hw]
  have h1 := h _ _ rfl (Blk.new w Z t) ((Keeps.refl _ _).alloc _)
  unfold Oper.wp execOp
  simp [ho, Instr.alloc, hz, go_sem]
  exact h1
/-- A literal's bytes: their block is marked. -/
theorem run_convBB {P : Program} {w : World} {g : Nat} {cs : List Value} {T : TypeId} (t e : TypeId) (ht : P.underlying t = some (.slice e)) (he : P.underlying e = some (.int .u8)) (n c : Nat) (hb : Blk w g cs T) :
    ∃ w', (convert t t (.slice (some ⟨g, 0, none⟩) n c)).run P w = .ok (.slice (some ⟨g, 0, none⟩) n c) w' ∧ (∀ i v, cs[i]? = some v → w'.cell? ⟨g, i, none⟩ = some v) ∧ Keeps (One g) w w' ∧ g < w'.heap.size := by
  have hlt := hb.lt
  have hb' : w.heap[g]? = some (.cells cs.toArray T (0, 0)) := hb
  have hsh : w.shape? g = some (T, cs.length) := by
    unfold World.shape?
    rw [hb']
    simp
  have hhp : ∀ k, (w.freeze ⟨g, cs.length, none⟩ 1).heap[k]? = if k = g then some (.cells cs.toArray T (cs.length, cs.length + 1)) else w.heap[k]? := fun k => by
    unfold World.freeze
    rw [if_neg (by decide)]
    simp only [Array.getElem?_modify]
    by_cases hk : k = g
    · subst hk
      rw [if_pos rfl, if_pos rfl, hb']
      rfl
    · rw [if_neg (fun h => hk h.symm), if_neg hk]
  refine ⟨w.freeze ⟨g, cs.length, none⟩ 1, ?_, fun i v hv => ?_, ⟨by unfold World.freeze; rw [if_neg (by decide)], by unfold World.freeze; rw [if_neg (by decide)], by unfold World.freeze; rw [if_neg (by decide)], by unfold World.freeze; rw [if_neg (by decide)]; simp, fun k _ hk => by rw [hhp, if_neg (show ¬ k = g from hk)]⟩, by unfold World.freeze; rw [if_neg (by decide)]; simpa using hlt⟩
  · simp [convert, run_underlying ht, run_underlying he, markStringish, hsh]
  · have := hhp g
    rw [if_pos rfl] at this
    simp [World.cell?, this, hv]
theorem step_convBB {P : Program} {ops : Array Oper} {o : Oper} {a : Act} {w : World} {K : Act → World → Prop} {Q : Exit → Act → World → Prop} {E : Prop} (hw : Region.wanted o (yielded ops a.tmps) = true) (t e : TypeId) (x : Operand) (ho : o.op = .convert t t x)
    (ht : P.underlying t = some (.slice e)) (he : P.underlying e = some (.int .u8)) {g n c : Nat} (hx : a.eval x = .slice (some ⟨g, 0, none⟩) n c) {cs : List Value} {T : TypeId} (hb : Blk w g cs T)
    (h : ∀ w', (∀ i v, cs[i]? = some v → w'.cell? ⟨g, i, none⟩ = some v) → Keeps (One g) w w' → g < w'.heap.size → K (a.put o.dst (.slice (some ⟨g, 0, none⟩) n c)) w') : if Region.wanted o (yielded ops a.tmps) = true then Oper.wp P o a w K Q else E := by
  rw [if_pos hw]
  obtain ⟨w', hr, h1, h2, h3⟩ := run_convBB t e ht he n c hb
  unfold Oper.wp execOp
  simp only [ho, hx, Sem.run_bind, hr, Result.andThen_ok]
  exact h w' h1 h2 h3
/-- Blocks made one behind the other. -/
theorem alloc2 (w : World) (c1 : List Value) (T1 : TypeId) (c2 : List Value) (T2 : TypeId) : ∃ wA, wA = (w.alloc (.cells c1.toArray T1)).alloc (.cells c2.toArray T2) ∧ Blk wA w.heap.size c1 T1 ∧ Blk wA (w.heap.size + 1) c2 T2 ∧ Keeps Nil w wA ∧ wA.heap.size = w.heap.size + 1 + 1 :=
  ⟨_, rfl, (Blk.new w c1 _).alloc _, Blk.new' _ c2 _ (Array.size_push _).symm, ((Keeps.refl Nil w).alloc _).alloc _, by rw [size_alloc', size_alloc']⟩
theorem alloc3 (w : World) (c1 : List Value) (T1 : TypeId) (c2 : List Value) (T2 : TypeId) (c3 : List Value) (T3 : TypeId) : ∃ wA, wA = ((w.alloc (.cells c1.toArray T1)).alloc (.cells c2.toArray T2)).alloc (.cells c3.toArray T3) ∧ Blk wA w.heap.size c1 T1 ∧ Blk wA (w.heap.size + 1) c2 T2 ∧ Blk wA (w.heap.size + 1 + 1) c3 T3 ∧ Keeps Nil w wA ∧ wA.heap.size = w.heap.size + 1 + 1 + 1 := by
  obtain ⟨wB, hB, h1, h2, hk, hs⟩ := alloc2 w c1 T1 c2 T2
  subst hB
  exact ⟨_, rfl, h1.alloc _, h2.alloc _, Blk.new' _ c3 _ hs.symm, hk.alloc _, by rw [size_alloc', hs]⟩
theorem alloc4 (w : World) (c1 : List Value) (T1 : TypeId) (c2 : List Value) (T2 : TypeId) (c3 : List Value) (T3 : TypeId) (c4 : List Value) (T4 : TypeId) : ∃ wA, wA = (((w.alloc (.cells c1.toArray T1)).alloc (.cells c2.toArray T2)).alloc (.cells c3.toArray T3)).alloc (.cells c4.toArray T4) ∧ Blk wA w.heap.size c1 T1 ∧ Blk wA (w.heap.size + 1) c2 T2 ∧ Blk wA (w.heap.size + 1 + 1) c3 T3 ∧ Blk wA (w.heap.size + 1 + 1 + 1) c4 T4 ∧ Keeps Nil w wA ∧ wA.heap.size = w.heap.size + 1 + 1 + 1 + 1 := by
  obtain ⟨wB, hB, h1, h2, h3, hk, hs⟩ := alloc3 w c1 T1 c2 T2 c3 T3
  subst hB
  exact ⟨_, rfl, h1.alloc _, h2.alloc _, h3.alloc _, Blk.new' _ c4 _ hs.symm, hk.alloc _, by rw [size_alloc', hs]⟩
/-- Three may come up. -/
theorem threeL {P : Program} {md : Region.Mode} {l : List Oper} {Q : Exit → Act → World → Prop} {S : World → Prop} {i j k : Nat} {oi oj ok : Oper} {fuel : Nat} {listed : Array Bool} {a : Act} {w : World} (hi : l[i]? = some oi) (hj : l[j]? = some oj) (hk : l[k]? = some ok) (hr : Region.ready md l.toArray listed = [i, j, k])
    (h1 : ∀ K : Act → World → Prop, (∀ a' w', S w' → wpAnyH P md l.toArray Q S fuel (listed.setIfInBounds i true) a' w' → K a' w') → if Region.wanted oi (yielded l.toArray a.tmps) = true then oi.wp P a w K Q else K (a.put oi.dst undef) w)
    (h2 : ∀ K : Act → World → Prop, (∀ a' w', S w' → wpAnyH P md l.toArray Q S fuel (listed.setIfInBounds j true) a' w' → K a' w') → if Region.wanted oj (yielded l.toArray a.tmps) = true then oj.wp P a w K Q else K (a.put oj.dst undef) w)
    (h3 : ∀ K : Act → World → Prop, (∀ a' w', S w' → wpAnyH P md l.toArray Q S fuel (listed.setIfInBounds k true) a' w' → K a' w') → if Region.wanted ok (yielded l.toArray a.tmps) = true then ok.wp P a w K Q else K (a.put ok.dst undef) w) :
    wpAnyH P md l.toArray Q S (fuel + 1) listed a w :=
  wpAnyH_all hr (by simp) (fun x hx => by
    have key : ∀ (y : Nat) (oy : Oper), l[y]? = some oy → (∀ K : Act → World → Prop, (∀ a' w', S w' → wpAnyH P md l.toArray Q S fuel (listed.setIfInBounds y true) a' w' → K a' w') → if Region.wanted oy (yielded l.toArray a.tmps) = true then oy.wp P a w K Q else K (a.put oy.dst undef) w) →
        wpOp P l.toArray Q y (fun a' w' => S w' ∧ wpAnyH P md l.toArray Q S fuel (listed.setIfInBounds y true) a' w') a w := fun y oy hy h => by
      have hy' : l.toArray[y]? = some oy := by simpa using hy
      unfold wpOp
      rw [hy']
      have h1 := h (fun a' w' => S w' ∧ wpAnyH P md l.toArray Q S fuel (listed.setIfInBounds y true) a' w') (fun a' w' hS h => ⟨hS, h⟩)
      simp only
      split
      · rename_i hw; rw [if_pos hw] at h1; exact .inl h1
      · rename_i hw; rw [if_neg hw] at h1; exact h1
    have hx' : x = i ∨ x = j ∨ x = k := by simpa using hx
    rcases hx' with rfl | rfl | rfl
    · exact key _ _ hi h1
    · exact key _ _ hj h2
    · exact key _ _ hk h3)
end Go.Proofs.YtmbdldnldcgdjaaDoor
