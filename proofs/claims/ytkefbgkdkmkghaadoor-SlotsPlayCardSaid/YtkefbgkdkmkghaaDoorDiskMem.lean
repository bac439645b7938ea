/-
  Disks in memory: the program's. Which blocks are its own, and which of them are written, is told by roles.
-/
import Derived.Test.YtkefbgkdkmkghaaDoorDiskPlain
namespace Go.Proofs.YtkefbgkdkmkghaaDoor
set_option linter.unusedSimpArgs false
set_option linter.unusedVariables false
open Go.RowKit

/-- A block's role: 0 it is none of it; 1 it is never written; 2 the object; 3 its table; 4 + i what is loose of sector i. -/
abbrev Roles := Nat → Nat
def upd (R : Roles) (k v : Nat) : Roles := fun x => if x = k then v else R x
theorem upd_self (R : Roles) (k v : Nat) : upd R k v k = v := if_pos rfl
theorem upd_ne (R : Roles) {k x : Nat} (v : Nat) (h : x ≠ k) : upd R k v x = R x := if_neg h
/-- What may be written. -/
def Wr (R : Roles) : Nat → Prop := fun k => 2 ≤ R k
/-- What a call on an object does: it writes its own blocks alone; old blocks' roles stay. -/
structure Grew (w w' : World) (R R' : Roles) : Prop where
  keeps : Keeps (Wr R) w w'
  same : ∀ k, k < w.heap.size → R' k = R k
theorem Grew.refl (w : World) (R : Roles) : Grew w w R R := ⟨Keeps.refl _ _, fun _ _ => rfl⟩
theorem Grew.trans {a b c : World} {R R' R'' : Roles} (h : Grew a b R R') (k : Grew b c R' R'') : Grew a c R R'' :=
  ⟨h.keeps.step k.keeps (fun i hi => by
    rcases Nat.lt_or_ge i a.heap.size with h' | h'
    · left; have := h.same i h'; unfold Wr at hi ⊢; omega
    · exact .inr h'), fun i hi => (k.same i (Nat.lt_of_lt_of_le hi h.keeps.size)).trans (h.same i hi)⟩
theorem Grew.of_nil {w w' : World} (R : Roles) (h : Keeps Nil w w') : Grew w w' R R := ⟨h.nil, fun _ _ => rfl⟩
/-- A sector's bytes. -/
def BVal (w : World) (R : Roles) (v : Value) (b : List Int) : Prop := ∃ g o c, v = .slice (some ⟨g, o, none⟩) 128 c ∧ Row .u8 w (some ⟨g, o, none⟩) 128 b ∧ R g = 1 ∧ g < w.heap.size
theorem BVal.keep {S : Nat → Prop} {w w' : World} {R R' : Roles} {v : Value} {b : List Int} (h : BVal w R v b) (hk : Keeps S w w') (hS : ∀ k, R k = 1 → ¬ S k) (hR : ∀ k, k < w.heap.size → R' k = R k) : BVal w' R' v b := by
  obtain ⟨g, o, c, rfl, hr, h1, hlt⟩ := h
  refine ⟨g, o, c, rfl, ⟨hr.llen, hr.most, fun h0 => ?_, hr.wf⟩, by rw [hR g hlt]; exact h1, Nat.lt_of_lt_of_le hlt hk.size⟩
  obtain ⟨b', off, ha, hb, hc⟩ := hr.cell h0
  cases ha
  exact ⟨g, o, rfl, Nat.lt_of_lt_of_le hb hk.size, fun i hi => hk.cell (hc i hi) (hS g h1)⟩
theorem BVal.bytes {w : World} {R : Roles} {v : Value} {b : List Int} (h : BVal w R v b) : b.length = 128 ∧ AreB b := by
  obtain ⟨g, o, c, rfl, hr, _⟩ := h
  exact ⟨hr.llen, hr.bytes⟩
/-- What is loose of a sector. -/
def LVal (w : World) (R : Roles) (i : Nat) (v : Value) (l : List (List Int)) : Prop :=
  ∃ a cap pv, v = .slice a (l.length - 1) cap ∧ Own w 25 1 a cap (l.length - 1) pv ∧ (∀ k, blkOf a k → R k = 4 + i) ∧ ∀ j, j + 1 < l.length → BVal w R (pv.getD j undef) (l.getD (j + 1) [])
theorem LVal.keep {S : Nat → Prop} {w w' : World} {R R' : Roles} {i : Nat} {v : Value} {l : List (List Int)} (h : LVal w R i v l) (hk : Keeps S w w') (hS : ∀ k, R k = 1 ∨ R k = 4 + i → ¬ S k) (hR : ∀ k, k < w.heap.size → R' k = R k) : LVal w' R' i v l := by
  obtain ⟨a, cap, pv, rfl, ho, hr, hb⟩ := h
  refine ⟨a, cap, pv, rfl, ho.keep hk (fun k hk' => hS k (.inr (hr k hk'))), fun k hk' => by rw [hR k (ho.lt k hk')]; exact hr k hk', fun j hj => (hb j hj).keep hk (fun k h1 => hS k (.inl h1)) hR⟩
/-- The table's cells. -/
def flatT (l : List (Value × Value)) : List Value := l.flatMap fun x => [x.1, x.2]
theorem flatT_len (l : List (Value × Value)) : (flatT l).length = l.length * 2 := by
  induction l with
  | nil => rfl
  | cons x l ih => simp [flatT] at ih ⊢; omega
theorem flatT_append (l r : List (Value × Value)) : flatT (l ++ r) = flatT l ++ flatT r := by simp [flatT]
theorem flatT_at : ∀ (l : List (Value × Value)) (i : Nat), i < l.length → (flatT l)[i * 2]? = some (l.getD i (undef, undef)).1 ∧ (flatT l)[i * 2 + 1]? = some (l.getD i (undef, undef)).2
  | [], i, h => absurd h (by simp)
  | x :: l, 0, _ => by simp [flatT]
  | x :: l, i + 1, h => by
    have ih := flatT_at l i (by simpa using h)
    have e : flatT (x :: l) = x.1 :: x.2 :: flatT l := by simp [flatT]
    rw [e, show (i + 1) * 2 = i * 2 + 1 + 1 by omega]
    simpa using ih
theorem flatT_set1 : ∀ (l : List (Value × Value)) (i : Nat) (v : Value), i < l.length → (flatT l).set (i * 2) v = flatT (l.set i (v, (l.getD i (undef, undef)).2))
  | [], i, v, h => absurd h (by simp)
  | x :: l, 0, v, _ => by simp [flatT]
  | x :: l, i + 1, v, h => by
    have ih := flatT_set1 l i v (by simpa using h)
    have e : ∀ (y : Value × Value) (l : List (Value × Value)), flatT (y :: l) = y.1 :: y.2 :: flatT l := fun y l => by simp [flatT]
    rw [List.set_cons_succ, e, e, show (i + 1) * 2 = i * 2 + 1 + 1 by omega, List.set_cons_succ, List.set_cons_succ, ih]
    simp
theorem flatT_set2 : ∀ (l : List (Value × Value)) (i : Nat) (v : Value), i < l.length → (flatT l).set (i * 2 + 1) v = flatT (l.set i ((l.getD i (undef, undef)).1, v))
  | [], i, v, h => absurd h (by simp)
  | x :: l, 0, v, _ => by simp [flatT]
  | x :: l, i + 1, v, h => by
    have ih := flatT_set2 l i v (by simpa using h)
    have e : ∀ (y : Value × Value) (l : List (Value × Value)), flatT (y :: l) = y.1 :: y.2 :: flatT l := fun y l => by simp [flatT]
    rw [List.set_cons_succ, e, e, show (i + 1) * 2 + 1 = i * 2 + 1 + 1 + 1 by omega, List.set_cons_succ, List.set_cons_succ, ih]
    simp
/-- The program's disk, its table known. -/
structure DiskAt (w : World) (p : Nat) (R : Roles) (d : Dk) (a : Option Addr) (cap : Nat) (tab : List (Value × Value)) : Prop where
  lt : ∀ k, R k ≠ 0 → k < w.heap.size
  me : R p = 2
  obj : Blk w p [.slice a d.vs.length cap, .bool d.off, .int .i64 d.left] 82
  own : Own w 85 2 a cap d.vs.length (flatT tab)
  len : tab.length = d.vs.length
  role : ∀ k, blkOf a k → R k = 3
  secs : ∀ i, i < d.vs.length → BVal w R (tab.getD i (undef, undef)).1 ((d.at_ i).getD 0 []) ∧ LVal w R i (tab.getD i (undef, undef)).2 (d.at_ i)
def IsDisk (w : World) (p : Nat) (R : Roles) (d : Dk) : Prop := ∃ a cap tab, DiskAt w p R d a cap tab
theorem DiskAt.is {w : World} {p : Nat} {R : Roles} {d : Dk} {a : Option Addr} {cap : Nat} {tab : List (Value × Value)} (h : DiskAt w p R d a cap tab) : IsDisk w p R d := ⟨a, cap, tab, h⟩
theorem DiskAt.keep {S : Nat → Prop} {w w' : World} {p : Nat} {R : Roles} {d : Dk} {a : Option Addr} {cap : Nat} {tab : List (Value × Value)} (h : DiskAt w p R d a cap tab) (hk : Keeps S w w') (hS : ∀ k, R k ≠ 0 → ¬ S k) : DiskAt w' p R d a cap tab :=
  ⟨fun k hk' => Nat.lt_of_lt_of_le (h.lt k hk') hk.size, h.me, h.obj.keep hk (hS p (by rw [h.me]; decide)), h.own.keep hk (fun k hk' => hS k (by rw [h.role k hk']; decide)), h.len, h.role, fun i hi =>
    ⟨(h.secs i hi).1.keep hk (fun k h1 => hS k (by rw [h1]; decide)) (fun _ _ => rfl), (h.secs i hi).2.keep hk (fun k h1 => hS k (by omega)) (fun _ _ => rfl)⟩⟩
theorem DiskAt.keep0 {w w' : World} {p : Nat} {R : Roles} {d : Dk} {a : Option Addr} {cap : Nat} {tab : List (Value × Value)} (h : DiskAt w p R d a cap tab) (hk : Keeps Nil w w') : DiskAt w' p R d a cap tab := h.keep hk (fun _ _ h => h)
theorem IsDisk.keep {S : Nat → Prop} {w w' : World} {p : Nat} {R : Roles} {d : Dk} (h : IsDisk w p R d) (hk : Keeps S w w') (hS : ∀ k, R k ≠ 0 → ¬ S k) : IsDisk w' p R d := by
  obtain ⟨a, cap, tab, h⟩ := h
  exact (h.keep hk hS).is
theorem IsDisk.keep0 {w w' : World} {p : Nat} {R : Roles} {d : Dk} (h : IsDisk w p R d) (hk : Keeps Nil w w') : IsDisk w' p R d := h.keep hk (fun _ _ h => h)
theorem IsDisk.lt {w : World} {p : Nat} {R : Roles} {d : Dk} (h : IsDisk w p R d) : ∀ k, R k ≠ 0 → k < w.heap.size := by
  obtain ⟨a, cap, tab, h⟩ := h
  exact h.lt
/-- Its numbers have been changed. -/
theorem DiskAt.head {w w' : World} {p : Nat} {R : Roles} {d : Dk} {a : Option Addr} {cap : Nat} {tab : List (Value × Value)} (h : DiskAt w p R d a cap tab) {off : Bool} {left : Int} (hk : Keeps (One p) w w') (hb : Blk w' p [.slice a d.vs.length cap, .bool off, .int .i64 left] 82) :
    DiskAt w' p R { d with off := off, left := left } a cap tab :=
  have hn : ∀ k, R k ≠ 2 → ¬ One p k := fun k h1 h2 => h1 (by rw [show k = p from h2]; exact h.me)
  ⟨fun k hk' => Nat.lt_of_lt_of_le (h.lt k hk') hk.size, h.me, hb, h.own.keep hk (fun k hk' => hn k (by rw [h.role k hk']; decide)), h.len, h.role, fun i hi =>
    ⟨(h.secs i hi).1.keep hk (fun k h1 => hn k (by rw [h1]; decide)) (fun _ _ => rfl), (h.secs i hi).2.keep hk (fun k h1 => hn k (by omega)) (fun _ _ => rfl)⟩⟩
/-- One sector has been changed. -/
theorem DiskAt.step {w w' : World} {p : Nat} {R R' : Roles} {d : Dk} {a : Option Addr} {cap : Nat} {tab : List (Value × Value)} (h : DiskAt w p R d a cap tab) {i : Nat} {l : List (List Int)} {fv lv : Value} (hi : i < d.vs.length)
    (hk : Keeps (fun k => R k = 3 ∨ R k = 4 + i) w w') (hR : ∀ k, k < w.heap.size → R' k = R k) (hlt : ∀ k, R' k ≠ 0 → k < w'.heap.size)
    (ho : Own w' 85 2 a cap d.vs.length (flatT (tab.set i (fv, lv)))) (hf : BVal w' R' fv (l.getD 0 [])) (hl : LVal w' R' i lv l) : DiskAt w' p R' { d with vs := d.vs.set i l } a cap (tab.set i (fv, lv)) := by
  have hp : p < w.heap.size := h.obj.lt
  refine ⟨hlt, by rw [hR p hp]; exact h.me, ?_, by rw [List.length_set]; exact ho, by rw [List.length_set, List.length_set]; exact h.len, fun k hk' => by rw [hR k (h.own.lt k hk')]; exact h.role k hk', fun j hj => ?_⟩
  · rw [List.length_set]
    exact h.obj.keep hk (fun e => by rw [h.me] at e; omega)
  · rw [List.length_set] at hj
    by_cases hij : i = j
    · subst hij
      have h1 : (tab.set i (fv, lv)).getD i (undef, undef) = (fv, lv) := by simp [List.getD, h.len, hj]
      have h2 : Dk.at_ { d with vs := d.vs.set i l } i = l := by simp [Dk.at_, List.getD, hj]
      rw [h1, h2]
      exact ⟨hf, hl⟩
    · have h1 : (tab.set i (fv, lv)).getD j (undef, undef) = tab.getD j (undef, undef) := by simp [List.getD, List.getElem?_set, hij]
      have h2 : Dk.at_ { d with vs := d.vs.set i l } j = d.at_ j := by simp [Dk.at_, List.getD, List.getElem?_set, hij]
      rw [h1, h2]
      exact ⟨(h.secs j hj).1.keep hk (fun k h1 e => by omega) hR, (h.secs j hj).2.keep hk (fun k h1 e => by omega) hR⟩
theorem getD_snoc {l : List (List Int)} {b : List Int} {j : Nat} : (l ++ [b]).getD j [] = if j < l.length then l.getD j [] else if j = l.length then b else [] := by
  by_cases h : j < l.length
  · simp [List.getD, List.getElem?_append, h]
  · rw [if_neg h]
    by_cases h2 : j = l.length
    · subst h2; simp [List.getD]
    · rw [if_neg h2]
      simp only [List.getD, List.getElem?_append, h, if_false]
      rw [List.getElem?_eq_none (by simp; omega)]
      rfl
/-- What is written is loose: the table's cell, ahead of it. -/
theorem DiskAt.loosen_pre {v0 w3 w4 : World} {p : Nat} {R : Roles} {d : Dk} {g cap : Nat} {tab : List (Value × Value)} (h : DiskAt v0 p R d (some ⟨g, 0, none⟩) cap tab) {k : Nat} (hk : k < d.vs.length) {la : Option Addr} (hlr : ∀ x, blkOf la x → R x = 4 + k)
    (hKw : Keeps Nil v0 w3) (qk : Keeps (blkOf la) w3 w4) : (∃ v, w4.cell? ⟨g, k * 2 + 1, none⟩ = some v) ∧ w4.frozen? ⟨g, k * 2 + 1, none⟩ = false ∧ ¬ blkOf la p ∧ p ≠ g := by
  have ho := (h.own.keep0 hKw).keep qk (fun x hx e => by have h1 := h.role x hx; have h2 := hlr x e; omega)
  refine ⟨⟨_, ho.cellAt (k * 2 + 1) (flatT_at tab k (by rw [h.len]; exact hk)).2⟩, ho.frozen _, fun e => ?_, fun e => ?_⟩
  · have h1 := hlr p e; have := h.me; omega
  · have h1 := h.role g ((blkOf_some _ _ _ _).2 rfl); have := h.me; rw [e] at this; omega
theorem DiskAt.loosen {v0 w3 w4 : World} {p : Nat} {R : Roles} {d : Dk} {g cap : Nat} {tab : List (Value × Value)} (h : DiskAt v0 p R d (some ⟨g, 0, none⟩) cap tab) {k : Nat} (hk : k < d.vs.length) {L : List (List Int)} (hL : d.at_ k = L) (hL0 : 0 < L.length)
    {la : Option Addr} {lc : Nat} {pv : List Value} (hlo : Own v0 25 1 la lc (L.length - 1) pv) (hlr : ∀ x, blkOf la x → R x = 4 + k) (hlb : ∀ j, j + 1 < L.length → BVal v0 R (pv.getD j undef) (L.getD (j + 1) []))
    (hKw : Keeps Nil v0 w3) {g1 cap1 : Nat} {b : List Int} (hrow : Row .u8 w3 (some ⟨g1, 0, none⟩) 128 b) (hg1 : v0.heap.size ≤ g1) (hg1l : g1 < w3.heap.size) (qk : Keeps (blkOf la) w3 w4) {g4 cap4 : Nat}
    (ho4 : Own w4 25 1 (some ⟨g4, 0, none⟩) cap4 (L.length - 1 + 1) (pv ++ [.slice (some ⟨g1, 0, none⟩) 128 cap1])) (hg4 : blkOf la g4 ∨ g4 = w3.heap.size) :
    ∃ R' tab', DiskAt (w4.setCell ⟨g, k * 2 + 1, none⟩ (.slice (some ⟨g4, 0, none⟩) (L.length - 1 + 1) cap4)) p R' (d.put k b) (some ⟨g, 0, none⟩) cap tab' ∧ Grew v0 (w4.setCell ⟨g, k * 2 + 1, none⟩ (.slice (some ⟨g4, 0, none⟩) (L.length - 1 + 1) cap4)) R R' := by
  have hgr : R g = 3 := h.role g ((blkOf_some _ _ _ _).2 rfl)
  have hgl := h.own.lt g ((blkOf_some _ _ _ _).2 rfl)
  have hsz := hKw.size
  have hsz4 := qk.size
  have hg4l := ho4.lt g4 ((blkOf_some _ _ _ _).2 rfl)
  have hg4c : (R g4 = 4 + k ∧ g4 < v0.heap.size) ∨ g4 = w3.heap.size := hg4.elim (fun h1 => .inl ⟨hlr g4 h1, hlo.lt g4 h1⟩) .inr
  have h14 : g1 ≠ g4 := by rcases hg4c with h1 | h1 <;> omega
  have hgg4 : g ≠ g4 := fun e => by
    rcases hg4c with h1 | h1
    · rw [← e, hgr] at h1; omega
    · omega
  have hgg1 : g ≠ g1 := by omega
  have hown4 := (h.own.keep0 hKw).keep qk (fun x hx e => by have h1 := h.role x hx; have h2 := hlr x e; omega)
  obtain ⟨w5, hw5⟩ : ∃ w5, w5 = w4.setCell ⟨g, k * 2 + 1, none⟩ (.slice (some ⟨g4, 0, none⟩) (L.length - 1 + 1) cap4) := ⟨_, rfl⟩
  have hk45 : Keeps (One g) w4 w5 := by rw [hw5]; exact (Keeps.refl _ _).setOne _ _
  have hk5 : Keeps (fun x => R x = 3 ∨ R x = 4 + k) v0 w5 := (hKw.nil.step qk (fun x hx => .inl (.inr (hlr x hx)))).step hk45 (fun x hx => .inl (.inl (by rw [show x = g from hx]; exact hgr)))
  have hR : ∀ x, x < v0.heap.size → upd (upd R g1 1) g4 (4 + k) x = R x := fun x hx => by
    by_cases hx4 : x = g4
    · subst hx4
      rw [upd_self]
      rcases hg4c with h1 | h1
      · exact h1.1.symm
      · omega
    · rw [upd_ne _ _ hx4, upd_ne _ _ (by omega)]
  have hr1 : upd (upd R g1 1) g4 (4 + k) g1 = 1 := by rw [upd_ne _ _ h14, upd_self]
  have hr4 : upd (upd R g1 1) g4 (4 + k) g4 = 4 + k := upd_self _ _ _
  have hfl := flatT_at tab k (by rw [h.len]; exact hk)
  have hown5 : Own w5 85 2 (some ⟨g, 0, none⟩) cap d.vs.length (flatT (tab.set k ((tab.getD k (undef, undef)).1, .slice (some ⟨g4, 0, none⟩) (L.length - 1 + 1) cap4))) := by
    rw [← flatT_set2 tab k _ (by rw [h.len]; exact hk), hw5]
    exact hown4.setCell _ (by rw [flatT_len, h.len]; omega) _
  have hsec := (h.secs k hk).1
  rw [hL] at hsec
  have hput : d.put k b = { d with vs := d.vs.set k (L ++ [b]) } := by unfold Dk.put; rw [hL]
  have hmid : ∀ {v : Value} {y : List Int}, BVal v0 R v y → BVal w5 (upd (upd R g1 1) g4 (4 + k)) v y := fun hb => hb.keep hk5 (fun x h1 e => by omega) hR
  rw [← hw5]
  refine ⟨upd (upd R g1 1) g4 (4 + k), _, hput ▸ h.step hk hk5 hR (fun x hx => ?_) hown5 ?_ ?_, ⟨hk5.mono (fun x hx => by unfold Wr; omega), hR⟩⟩
  · have := hk45.size
    by_cases hx4 : x = g4
    · omega
    · rw [upd_ne _ _ hx4] at hx
      by_cases hx1 : x = g1
      · omega
      · rw [upd_ne _ _ hx1] at hx
        have := h.lt x hx
        omega
  · rw [getD_snoc, if_pos hL0]
    exact hmid hsec
  · have hlen : (L ++ [b]).length - 1 = L.length - 1 + 1 := by rw [List.length_append]; simp only [List.length_singleton]; omega
    refine ⟨some ⟨g4, 0, none⟩, cap4, pv ++ [.slice (some ⟨g1, 0, none⟩) 128 cap1], by rw [hlen], by rw [hlen]; exact ho4.keep hk45 (fun x hx e => hgg4 (by rw [(blkOf_some _ _ _ _).1 hx] at e; exact e.symm)), fun x hx => by rw [(blkOf_some _ _ _ _).1 hx]; exact hr4, fun j hj => ?_⟩
    have hpl : pv.length = L.length - 1 := by have := hlo.1; omega
    rw [List.length_append, List.length_singleton] at hj
    by_cases hjl : j + 1 < L.length
    · rw [getD_snoc, if_pos hjl]
      have h1 : (pv ++ [Value.slice (some ⟨g1, 0, none⟩) 128 cap1]).getD j undef = pv.getD j undef := by simp [List.getD, List.getElem?_append, show j < pv.length by omega]
      rw [h1]
      exact hmid (hlb j hjl)
    · have hje : j + 1 = L.length := by omega
      rw [getD_snoc, if_neg hjl, if_pos hje]
      have h1 : (pv ++ [Value.slice (some ⟨g1, 0, none⟩) 128 cap1]).getD j undef = .slice (some ⟨g1, 0, none⟩) 128 cap1 := by
        have : j = pv.length := by omega
        subst this
        simp [List.getD]
      rw [h1]
      refine ⟨g1, 0, cap1, rfl, ?_, hr1, by have := hk45.size; omega⟩
      have hkall : Keeps (fun x => blkOf la x ∨ x = g) w3 w5 := (qk.mono (fun x hx => .inl hx)).step hk45 (fun x hx => .inl (.inr hx))
      refine ⟨hrow.llen, hrow.most, fun h0 => ?_, hrow.wf⟩
      obtain ⟨b', off', ha, hb', hc⟩ := hrow.cell h0
      cases ha
      refine ⟨g1, 0, rfl, Nat.lt_of_lt_of_le hb' hkall.size, fun i hi => hkall.cell (hc i hi) (fun e => ?_)⟩
      rcases e with e | e
      · have := hlo.lt g1 e; omega
      · omega
/-- Two objects that share nothing. -/
def Apart2 (R Q : Roles) : Prop := ∀ k, R k = 0 ∨ Q k = 0
theorem Apart2.grew {w w' : World} {R R' Q : Roles} (h : Apart2 R Q) (hg : Grew w w' R R') (hQ : ∀ k, Q k ≠ 0 → k < w.heap.size) : Apart2 R' Q := fun k => by
  rcases Nat.lt_or_ge k w.heap.size with h' | h'
  · rw [hg.same k h']; exact h k
  · right
    exact Decidable.byContradiction fun h2 => by have := hQ k h2; omega
theorem Apart2.symm {R Q : Roles} (h : Apart2 R Q) : Apart2 Q R := fun k => (h k).symm
theorem Apart2.not {R Q : Roles} (h : Apart2 R Q) : ∀ k, Q k ≠ 0 → ¬ Wr R k := fun k h1 h2 => by
  rcases h k with h3 | h3
  · unfold Wr at h2; omega
  · exact h1 h3
end Go.Proofs.YtkefbgkdkmkghaaDoor
