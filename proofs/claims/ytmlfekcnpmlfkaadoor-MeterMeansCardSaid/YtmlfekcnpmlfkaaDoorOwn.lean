/-
  Slices of the program's own: rows at the head of a block, with spare room; append to them; what is read out of them. No program in sight but for the model's own.
-/
import Derived.Test.YtmlfekcnpmlfkaaDoorAgg
import Derived.Deep.AppendLies
import Derived.Laws.AppendOwnNone
namespace Go.Proofs.YtmlfekcnpmlfkaaDoor
set_option linter.unusedSimpArgs false
set_option linter.unusedVariables false
open Go.RowKit

/-- Bytes as cells. -/
def byteV (l : List Int) : List Value := l.map (Value.int .u8)
/-- The block that a slice leads to. -/
def blkOf (a : Option Addr) : Nat → Prop := fun k => ∃ ad, a = some ad ∧ ad.block = k
theorem blkOf_none (k : Nat) : ¬ blkOf none k := fun ⟨_, h, _⟩ => by cases h
theorem blkOf_some (b o : Nat) (s : Option Nat) (k : Nat) : blkOf (some ⟨b, o, s⟩) k ↔ k = b := ⟨fun ⟨_, h, h2⟩ => by cases h; exact h2.symm, fun h => ⟨_, rfl, h.symm⟩⟩

/-- A slice of n elements of 'size' cells each that is nil, or lies at the head of a block that may be written. -/
def Own (w : World) (e : TypeId) (size : Nat) (a : Option Addr) (cap n : Nat) (xs : List Value) : Prop :=
  xs.length = n * size ∧ n ≤ cap ∧ cap ≤ maxLen ∧ ((a = none ∧ n = 0 ∧ cap = 0) ∨ ∃ g spare, a = some ⟨g, 0, none⟩ ∧ Blk w g (xs ++ spare) e ∧ (xs ++ spare).length = cap * size)

section
variable {w w' : World} {e : TypeId} {size : Nat} {a : Option Addr} {cap n : Nat} {xs : List Value}
theorem Own.nil (w : World) (e : TypeId) (size : Nat) : Own w e size none 0 0 [] := ⟨by simp, Nat.le_refl _, Nat.zero_le _, .inl ⟨rfl, rfl, rfl⟩⟩
theorem Own.keep {S : Nat → Prop} (h : Own w e size a cap n xs) (hk : Keeps S w w') (hn : ∀ k, blkOf a k → ¬ S k) : Own w' e size a cap n xs := by
  obtain ⟨h1, h2, h3, h4⟩ := h
  refine ⟨h1, h2, h3, ?_⟩
  rcases h4 with h4 | ⟨g, sp, rfl, hb, hl⟩
  · exact .inl h4
  · exact .inr ⟨g, sp, rfl, hb.keep hk (hn g ((blkOf_some _ _ _ _).2 rfl)), hl⟩
theorem Own.keep0 (h : Own w e size a cap n xs) (hk : Keeps Nil w w') : Own w' e size a cap n xs := h.keep hk (fun _ _ h => h)
theorem Own.lt (h : Own w e size a cap n xs) : ∀ k, blkOf a k → k < w.heap.size := by
  obtain ⟨_, _, _, h4⟩ := h
  intro k hk
  rcases h4 with ⟨rfl, _⟩ | ⟨g, sp, rfl, hb, _⟩
  · exact (blkOf_none k hk).elim
  · rw [(blkOf_some _ _ _ _).1 hk]; exact hb.lt
theorem Own.to (h : Own w e size a cap n xs) : w.ownsRow 0 e size (.slice a n cap) n xs := by
  obtain ⟨h1, h2, h3, h4⟩ := h
  refine ⟨h1, ?_⟩
  rcases h4 with ⟨rfl, rfl, rfl⟩ | ⟨g, sp, rfl, hb, hl⟩
  · exact .inl ⟨rfl, rfl⟩
  · exact .inr ⟨g, cap, (xs ++ sp).toArray, rfl, Nat.zero_le _, hb, h2, h3, by simpa using hl, by simp [← h1]⟩
theorem Own.of {base : Nat} (h : w.ownsRow base e size (.slice a n cap) n xs) : Own w e size a cap n xs := by
  obtain ⟨h1, h2⟩ := h
  rcases h2 with ⟨h2, rfl⟩ | ⟨g, c, cur, hv, _, hb, hn, hm, hs, ht⟩
  · simp at h2
    obtain ⟨rfl, rfl⟩ := h2
    exact ⟨h1, Nat.le_refl _, Nat.zero_le _, .inl ⟨rfl, rfl, rfl⟩⟩
  · simp at hv
    obtain ⟨rfl, rfl⟩ := hv
    have hcur : xs ++ cur.toList.drop (n * size) = cur.toList := by rw [← ht]; exact List.take_append_drop _ _
    refine ⟨h1, hn, hm, .inr ⟨g, cur.toList.drop (n * size), rfl, ?_, ?_⟩⟩
    · unfold Blk
      rw [hcur]
      simpa using hb
    · rw [hcur]
      simpa using hs
/-- The cells of its elements. -/
theorem Own.range (h : Own w e size a cap n xs) {g o : Nat} {s : Option Nat} (ha : a = some ⟨g, o, s⟩) : o = 0 ∧ s = none ∧ w.rangeAt g 0 xs := by
  obtain ⟨_, _, _, h4⟩ := h
  rcases h4 with ⟨rfl, _⟩ | ⟨g', sp, rfl, hb, _⟩
  · cases ha
  · cases ha
    exact ⟨rfl, rfl, hb.rangeAt 0 (fun j v hv => by
      have := (List.getElem?_eq_some_iff.1 hv).1
      simpa [List.getElem?_append, this] using hv)⟩
theorem Own.some (h : Own w e size a cap n xs) (hn : 0 < n) : ∃ g, a = Option.some ⟨g, 0, none⟩ ∧ g < w.heap.size ∧ w.rangeAt g 0 xs := by
  have h' := h
  obtain ⟨_, _, _, h4⟩ := h
  rcases h4 with ⟨_, rfl, _⟩ | ⟨g', sp, rfl, hb, _⟩
  · omega
  · exact ⟨g', rfl, hb.lt, (h'.range rfl).2.2⟩
/-- A slice of whole numbers of one's own reads as one that came in. -/
theorem Own.row {k : IntKind} {l : List Int} (h : Own w e 1 a cap n (l.map (Value.int k))) (hw : ∀ x ∈ l, (Lit.int k x).wf = true) : Row k w a n l := by
  have hl := h.1
  have hm := h.2.2.1
  have hc := h.2.1
  unfold maxLen at hm
  refine ⟨by simpa using hl, by omega, fun hn => ?_, hw⟩
  obtain ⟨g, ha, hlt, hr⟩ := h.some hn
  refine ⟨g, 0, ha, hlt, fun i hi => hr i _ ?_⟩
  simp at hl
  simp [List.getElem?_map, List.getD, show i < l.length by omega]
end

section
variable {P : Program} {ops : Array Oper} {rest : List Oper} {o : Oper} {A : Act} {w : World} {Q : Exit → Act → World → Prop}
/-- What is appended: nil, or cells that lie at an address. -/
def Src (w : World) (ao : Option Addr) (m c : Nat) (size : Nat) (news : List Value) : Prop :=
  news.length = m * size ∧ (∀ u ∈ news, u.oneCell' = true) ∧ ((ao = none ∧ m = 0 ∧ c = 0) ∨ ∃ ad, ao = some ad ∧ ∀ j u, news[j]? = some u → w.cell? (ad.add j) = some u)
/-- append to a slice of one's own. -/
theorem wpl_append (hg : o.guard = none) (s x : Operand) (t : TypeId) (ho : o.op = .call { callee := .builtin .append, args := #[s, x], argTypes := #[t, t] })
    (e : TypeId) (size bytes : Nat) (ht : P.underlying t = some (.slice e)) (hi : (P.info? e).map (fun i => (i.zero.map (·.cells.size), i.size, i.bytes)) = some (some size, size, bytes)) (hsz : 0 < size)
    (a : Option Addr) (cap n : Nat) (xs : List Value) (hs : A.eval s = .slice a n cap) (hown : Own w e size a cap n xs)
    (ao : Option Addr) (m c : Nat) (news : List Value) (hx : A.eval x = .slice ao m c) (hsrc : Src w ao m c size news) (h63 : n + m ≤ maxLen) (hbytes : (n + m) * bytes ≤ 140737488355328)
    (h : ∀ a' cap' w', Own w' e size a' cap' (n + m) (xs ++ news) → Keeps (blkOf a) w w' → (∀ k, blkOf a' k → blkOf a k ∨ k = w.heap.size) → (a' = none → a = none ∧ m = 0) → wpList P ops Q rest (A.put o.dst (.slice a' (n + m) cap')) w') :
    wpList P ops Q (o :: rest) A w := by
  obtain ⟨i, hie, hp⟩ := Option.map_eq_some_iff.1 hi
  simp only [Prod.mk.injEq] at hp
  obtain ⟨hz, hs1, hb1⟩ := hp
  obtain ⟨z, hz1, hz2⟩ := Option.map_eq_some_iff.1 hz
  obtain ⟨hnl, h1c, hcase⟩ := hsrc
  by_cases hm : m = 0
  · subst hm
    have hnews : news = [] := List.eq_nil_of_length_eq_zero (by simpa using hnl)
    subst hnews
    have hself : wpList P ops Q rest (A.put o.dst (.slice a n cap)) w :=
      h a cap w (by simpa using hown) (Keeps.refl _ _) (fun k hk => .inl hk) (fun ha => ⟨ha, rfl⟩)
    rcases hcase with ⟨rfl, _, rfl⟩ | ⟨ad, rfl, hc⟩
    · exact wpList_append_own_none hg s x t ho 0 e i size ht hie _ n xs hs hown.to hx hself
    · have hown' := hown
      obtain ⟨_, hncap, _, h4⟩ := hown'
      rcases h4 with ⟨rfl, rfl, rfl⟩ | ⟨g, sp, rfl, hb, hl⟩
      · refine wpList_append_own w hg s x t ho 0 e i z size bytes ht hie hz1 hs1 hb1 hz2 hsz _ 0 xs hs hown.to ad 0 c [] hx (by simp) (fun j u hu => by cases hu) (fun u hu => by cases hu) h63 hbytes (Nat.zero_le _) ?_
        intro v' w' hown1 hgrow hiff
        have hv : v' = .slice none 0 0 := hiff.2 ⟨rfl, rfl⟩
        subst hv
        exact h none 0 w' (Own.of hown1) ((Keeps.refl _ _).of_grown hgrow (fun k hk => by cases hk)) (fun k hk => (blkOf_none k hk).elim) (fun _ => ⟨rfl, rfl⟩)
      · refine wpList_append_fits w hg s x t ho 0 e i size ht hie hs1 g n cap xs hs hown.to ad 0 c [] hx (by simp) (fun j u hu => by cases hu) (fun u hu => by cases hu) (by omega) ?_
        intro w' hown1 hgrow
        exact h (some ⟨g, 0, none⟩) cap w' (Own.of hown1) ((Keeps.refl _ _).of_grown hgrow (fun k hk => .inl ((blkOf_some _ _ _ _).2 (by cases hk; rfl)))) (fun k hk => .inl hk) (fun ha => by cases ha)
  · rcases hcase with ⟨_, h0, _⟩ | ⟨ad, rfl, hc⟩
    · exact (hm h0).elim
    · refine wpList_append_lies w hg s x t ho 0 e i z size bytes ht hie hz1 hs1 hb1 hz2 hsz _ n xs hs hown.to ad m c news hx hnl hc h1c (by omega) h63 hbytes (Nat.zero_le _) w.heap.size rfl ?_
      intro g cap' w' hown1 hgrow hat hlt
      refine h (some ⟨g, 0, none⟩) cap' w' (Own.of hown1) ((Keeps.refl _ _).of_grown hgrow (fun k hk => .inl ?_)) (fun k hk => ?_) (fun ha => by cases ha)
      · cases a with
        | none => cases hk
        | some ad' => cases hk; exact ⟨ad', rfl, rfl⟩
      · rw [blkOf_some] at hk
        subst hk
        rcases hat with hat | hat
        · cases a with
          | none => cases hat
          | some ad' => cases hat; exact .inl ⟨ad', rfl, rfl⟩
        · exact .inr hat
/-- 'make([]T, n, c)' of elements of one cell. -/
theorem wpl_make (hg : o.guard = none) (l c : Operand) (t : TypeId) (hop : o.op = Op.makeSlice t l c) (e : TypeId) (z : Value) (B : Nat) (h1 : P.underlying t = some (.slice e))
    (hi : (P.info? e).map (fun i => (i.zero, i.size, i.bytes)) = some (some z, 1, B)) (hz : z.cells = #[z])
    (kl kc : IntKind) (n cap : Nat) (L C : Int) (hl : A.eval l = .int kl L) (hc : A.eval c = .int kc C) (hL : L = (n : Int)) (hC : C = (cap : Int)) (hlc : n ≤ cap) (b2 : B * cap ≤ 281474976710656) (b3 : cap ≤ maxLen)
    (h : ∀ w', Own w' e 1 (some ⟨w.heap.size, 0, none⟩) cap n (List.replicate n z) → Blk w' w.heap.size (List.replicate cap z) e → Keeps Nil w w' → wpList P ops Q rest (A.put o.dst (.slice (some ⟨w.heap.size, 0, none⟩) n cap)) w') :
    wpList P ops Q (o :: rest) A w := by
  subst hL hC
  obtain ⟨i, hie, hz0, hz1, hz2⟩ := info_parts hi
  have b3' := b3
  unfold maxLen at b3'
  have hb2 : (B : Int) * (cap : Int) ≤ 281474976710656 := by
    have h : ((B * cap : Nat) : Int) ≤ 281474976710656 := by omega
    rwa [Int.natCast_mul] at h
  refine wpList_mk hg l c t hop e i z h1 hie hz0 hz1 B hz2 hz kl kc n cap hl hc (by omega) (by omega) hb2 (by omega) ?_
  simp only [Int.toNat_natCast]
  have hb := Blk.new w (List.replicate cap z) e
  refine h _ ⟨by rw [List.length_replicate]; omega, hlc, b3, .inr ⟨w.heap.size, List.replicate (cap - n) z, rfl, ?_, by rw [List.length_append, List.length_replicate, List.length_replicate]; omega⟩⟩ hb ((Keeps.refl _ _).alloc _)
  rw [List.replicate_append_replicate, show n + (cap - n) = cap by omega]
  exact hb
end
theorem Row.src {k : IntKind} {w : World} {a : Option Addr} {len cap : Nat} {l : List Int} (h : Row k w a len l) (hc : a = none → cap = 0 ∧ len = 0) : Src w a len cap 1 (l.map (Value.int k)) := by
  refine ⟨by simp [h.llen], fun u hu => by obtain ⟨x, _, rfl⟩ := List.mem_map.1 hu; rfl, ?_⟩
  cases a with
  | none => exact .inl ⟨rfl, (hc rfl).2, (hc rfl).1⟩
  | some ad =>
    refine .inr ⟨ad, rfl, fun j u hu => ?_⟩
    have hj : j < l.length := by
      have := (List.getElem?_eq_some_iff.1 hu).1
      simpa using this
    obtain ⟨b, off, ha, _, hc'⟩ := h.cell (by rw [← h.llen]; omega)
    cases ha
    have := hc' j (by rw [← h.llen]; exact hj)
    rw [Addr.add_lit, this]
    simp [List.getElem?_map, List.getD, hj] at hu ⊢
    exact hu

/-- An empty slice literal: a new block of none. -/
theorem wpl_bs0 {P : Program} {ops : Array Oper} {rest : List Oper} {o : Oper} {A : Act} {w : World} {Q : Exit → Act → World → Prop} (hg : o.guard = none) (t e : TypeId) (ho : o.op = .buildSlice t 0 #[])
    (hu : P.underlying t = some (.slice e)) (hi : ((P.info? e).map (·.size)).isSome = true)
    (size : Nat) (h : ∀ w', Own w' e size (some ⟨w.heap.size, 0, none⟩) 0 0 [] → Keeps Nil w w' → wpList P ops Q rest (A.put o.dst (.slice (some ⟨w.heap.size, 0, none⟩) 0 0)) w') : wpList P ops Q (o :: rest) A w := by
  obtain ⟨i, hie⟩ := Option.isSome_iff_exists.1 hi
  obtain ⟨i, hie, _⟩ := Option.map_eq_some_iff.1 hie
  refine wpList_plain hg fun K hK => ?_
  unfold Oper.wp execOp
  have hr : (Instr.buildSlice t 0 #[]).run P w = .ok (.slice (some ⟨w.heap.size, 0, none⟩) 0 0) (w.alloc (.cells #[] e)) := by
    have he : (Array.range 0).map (fun (_ : Nat) => (default : Value)) = #[] := Array.eq_empty_of_size_eq_zero (by simp)
    simp [Instr.buildSlice, run_underlying hu, sizeOf, typeInfo, hie, newRow, Instr.fill, he]
  have hr' : (Instr.buildSlice t 0 ((#[] : Array (Nat × Operand)).map fun (i, x) => (i, A.eval x))).run P w = .ok (.slice (some ⟨w.heap.size, 0, none⟩) 0 0) (w.alloc (.cells #[] e)) := by simpa using hr
  simp only [ho, Sem.run_bind, hr', Result.andThen_ok]
  exact hK _ _ (h _ ⟨by simp, Nat.le_refl _, Nat.zero_le _, .inr ⟨w.heap.size, [], rfl, Blk.new w [] e, by simp⟩⟩ ((Keeps.refl _ _).alloc _))

theorem Src.one {w : World} {g : Nat} {v : Value} {T : TypeId} (h : Blk w g [v] T) (h1 : v.oneCell' = true) : Src w (some ⟨g, 0, none⟩) 1 1 1 [v] :=
  ⟨rfl, fun u hu => by simp at hu; rw [hu]; exact h1, .inr ⟨_, rfl, fun j u hu => by
    have := h.cell j hu
    rw [Addr.add_lit]
    simpa using this⟩⟩
/-- One's own slice as a source. -/
theorem Own.src {w : World} {e : TypeId} {size cap n : Nat} {a : Option Addr} {xs : List Value} (h : Own w e size a cap n xs) (h1 : ∀ u ∈ xs, u.oneCell' = true) : Src w a n cap size xs := by
  have h' := h
  obtain ⟨hl, _, _, h4⟩ := h
  refine ⟨hl, h1, ?_⟩
  rcases h4 with ⟨rfl, rfl, rfl⟩ | ⟨g, sp, rfl, hb, _⟩
  · exact .inl ⟨rfl, rfl, rfl⟩
  · exact .inr ⟨_, rfl, fun j u hu => by rw [Addr.add_lit]; have := (h'.range rfl).2.2 j u hu; simpa using this⟩
end Go.Proofs.YtmlfekcnpmlfkaaDoor
