/-
  append(s, make([]byte, k)...): zeros behind a slice of one's own. No program in sight but for the model's own.
-/
import Derived.Test.YtkefbgkdkmkghaaDoorSteps
import Derived.Test.YtkefbgkdkmkghaaDoorMid
import Derived.Lib.AppendZerosOnto
namespace Go.Proofs.YtkefbgkdkmkghaaDoor
set_option linter.unusedSimpArgs false
set_option linter.unusedVariables false
open Go.RowKit

theorem run_zerosO {P : Program} {w : World} (t tn ty e : TypeId) (kn kq : IntKind) (ht : P.underlying t = some (.slice e)) (htn : P.underlying tn = some (.int kn)) (hi : (P.info? e).map (fun i => (i.zero, i.size, i.bytes)) = some (some (.int .u8 0), 1, 1))
    {a : Option Addr} {cap n : Nat} {l : List Int} (hown : Own w e 1 a cap n (byteV l)) (hb : AreB l) (k : Nat) (hn : n + k ≤ 1000000) :
    ∃ a' cap' w', (Builtin.append_ #[t, tn] ty #[.slice a n cap, .int kq k]).run P w = .ok (.slice a' (n + k) cap') w' ∧ Own w' e 1 a' cap' (n + k) (byteV (l ++ List.replicate k 0)) ∧ Keeps (blkOf a) w w' ∧ (∀ x, blkOf a' x → blkOf a x ∨ w.heap.size ≤ x) := by
  have hb' : AreB (l ++ List.replicate k 0) := areB_append hb (areB_zeros k)
  have hl : l.length = n := by have := hown.1; simpa [byteV] using this
  obtain ⟨i, hie, hp⟩ := Option.map_eq_some_iff.1 hi
  simp only [Prod.mk.injEq] at hp
  obtain ⟨hz, hs1, hb1⟩ := hp
  have hw : IntKind.i64.wrap (k : Int) = k := by rw [IntKind.wrap_i64]; omega
  have hneg : ¬ ((k : Int) < 0) := by omega
  have h48 : ¬ (281474976710656 < (k : Int) * ((1 : Nat) : Int)) := by omega
  by_cases hr : n + k ≤ cap
  · by_cases hk : k = 0
    · subst hk
      refine ⟨a, cap, w, ?_, by simpa using hown, Keeps.refl _ _, fun x hx => .inl hx⟩
      have hcap : n ≤ cap := by omega
      have hw0 : IntKind.i64.wrap (0 : Int) = 0 := by rw [IntKind.wrap_i64]; omega
      cases a with
      | none => simp [Builtin.append_, run_underlying ht, run_underlying htn, sizeOf, typeInfo, zeroValue, hie, hz, hs1, hb1, asInt, asIntOf, hcap, hw0]
      | some b => simp [Builtin.append_, run_underlying ht, run_underlying htn, sizeOf, typeInfo, zeroValue, hie, hz, hs1, hb1, asInt, asIntOf, hcap, hw0, storeCells]
    · obtain ⟨_, _, hmx, h4⟩ := hown
      rcases h4 with ⟨_, h5, h6⟩ | ⟨g, sp, rfl, hblk, hsz⟩
      · omega
      · have hz0 : (Builtin.zeroCells (Value.int .u8 0).cells k).toList = List.replicate k (Value.int .u8 0) := by
          simp [Builtin.zeroCells, Value.cells]
          apply List.ext_getElem
          · simp
          · intro i h1 h2
            simp [Nat.mod_one]
        have ht2 := hblk.there (o := n) (n := k) (by omega)
        have hst := run_storeCells_cells (P := P) g n (List.replicate k (Value.int .u8 0)) 0 w (fun j hj => by simpa using (ht2 j (by simpa using hj)).1) (fun j hj => by simpa using (ht2 j (by simpa using hj)).2) (fun v hv => by rw [List.eq_of_mem_replicate hv]; rfl)
        have hset := hblk.setCells (List.replicate k (Value.int .u8 0)) n (by rw [List.length_replicate]; omega)
        have hk2 := Keeps.setCells (g := g) (List.replicate k (Value.int .u8 0)) n (Keeps.refl _ w)
        have hadd : (⟨g, 0, none⟩ : Addr).add n = ⟨g, n, none⟩ := by rw [Addr.add_lit]; simp
        refine ⟨some ⟨g, 0, none⟩, cap, w.setCells g n (List.replicate k (Value.int .u8 0)), ?_, ?_, hk2.mono (fun i hi => (blkOf_some _ _ _ _).2 hi), fun x hx => .inl hx⟩
        · simp only [Nat.add_zero] at hst
          simp [Builtin.append_, run_underlying ht, run_underlying htn, sizeOf, typeInfo, zeroValue, hie, hz, hs1, hb1, asInt, asIntOf, hw, hneg, hk, hr, hz0, hadd, hst]
          omega
        · have hsp : splice (byteV l ++ sp) n (List.replicate k (Value.int .u8 0)) = byteV (l ++ List.replicate k 0) ++ sp.drop k := by
            unfold splice
            rw [List.take_append_of_le_length (by rw [byteV_len]; omega), List.take_of_length_le (by rw [byteV_len]; omega), List.length_replicate, List.drop_append, byteV_len, hl, List.drop_of_length_le (by rw [byteV_len]; omega), Nat.add_sub_cancel_left]
            simp [byteV]
          rw [hsp] at hset
          exact ⟨by simp [byteV, hl], hr, hmx, .inr ⟨g, sp.drop k, rfl, hset, by rw [List.length_append, byteV_len, List.length_append, List.length_replicate, hl, List.length_drop]; rw [List.length_append, byteV_len, hl] at hsz; omega⟩⟩
  · have hk0 : 0 < k := by have := hown.2.1; omega
    have hcapn : n ≤ cap := hown.2.1
    have hold : (Builtin.firstCells i.size n (.slice a n cap)).run P w.drew = .ok (byteV l).toArray w.drew := by
      obtain ⟨_, _, _, h4⟩ := hown
      rcases h4 with ⟨rfl, h5, h6⟩ | ⟨g, sp, rfl, hblk, hsz⟩
      · have : l = [] := List.eq_nil_of_length_eq_zero (by omega)
        subst this
        subst h5
        exact run_firstCells_none (P := P) w.drew i.size 0 0 cap
      · exact run_firstCells_some (P := P) w.drew i.size n ⟨g, 0, none⟩ n cap (byteV l) (by rw [byteV_len, hs1, Nat.mul_one]; exact hl) (fun j v hj => by
          rw [Addr.add_lit, Nat.zero_add]
          have hjl := (List.getElem?_eq_some_iff.1 hj).1
          exact hblk.drew.cell j (by rw [List.getElem?_append_left hjl]; exact hj))
    have hnx : Builtin.nextslicecap (n + k) cap * i.bytes ≤ 281474976710656 := by
      rw [hb1, Nat.mul_one]
      have := nextslicecap_le (need := n + k) (old := cap) (by omega)
      omega
    have hrun := Lib.run_append_grow_zeros (P := P) w t tn ty e i (.int .u8 0) kq kn ht htn hie hz a n cap (byteV l) hold k hk0 (by omega) (by omega) (by omega) (by rw [hb1]; omega) hnx
    refine ⟨_, _, _, hrun, ?_, ((Keeps.refl _ w).drew).alloc _, fun x hx => .inr (by rw [(blkOf_some _ _ _ _).1 hx]; exact Nat.le_refl _)⟩
    have hz0 : (Builtin.zeroCells (Value.int .u8 0).cells k).toList = List.replicate k (Value.int .u8 0) := by
      simp [Builtin.zeroCells, Value.cells]
      apply List.ext_getElem
      · simp
      · intro i h1 h2
        simp [Nat.mod_one]
    have hbk := Blk.new w.drew (byteV (l ++ List.replicate k 0) ++ (Builtin.zeroCells (Value.int .u8 0).cells (grownCap w (n + k) cap e - (n + k))).toList) e
    have he : ((byteV l).toArray ++ Builtin.zeroCells (Value.int .u8 0).cells k ++ Builtin.zeroCells (Value.int .u8 0).cells (grownCap w (n + k) cap e - (n + k))) = (byteV (l ++ List.replicate k 0) ++ (Builtin.zeroCells (Value.int .u8 0).cells (grownCap w (n + k) cap e - (n + k))).toList).toArray := by
      apply Array.ext'
      simp [byteV, hz0]
    rw [he]
    have hge := grownCap_ge w (n + k) cap e
    have hle := grownCap_le_maxLen w (n + k) cap e (by unfold maxLen; omega)
    exact ⟨by simp [byteV, hl], hge, hle, .inr ⟨_, _, rfl, hbk, by simp [byteV, hl, Builtin.zeroCells, Value.cells]; omega⟩⟩
/-- The same, a step of the walk. -/
theorem wpl_zeros {P : Program} {ops : Array Oper} {rest : List Oper} {o : Oper} {A : Act} {w : World} {Q : Exit → Act → World → Prop} (hw : Region.wanted o (yielded ops A.tmps) = true) (s x : Operand) (t tn : TypeId) (ho : o.op = .call { callee := .builtin .append, args := #[s, x], argTypes := #[t, tn] })
    (e : TypeId) (kn kq : IntKind) (ht : P.underlying t = some (.slice e)) (htn : P.underlying tn = some (.int kn)) (hi : (P.info? e).map (fun i => (i.zero, i.size, i.bytes)) = some (some (.int .u8 0), 1, 1))
    (a : Option Addr) (cap n : Nat) (l : List Int) (hs : A.eval s = .slice a n cap) (hown : Own w e 1 a cap n (byteV l)) (hb : AreB l) (k : Nat) (hx : A.eval x = .int kq k) (hn : n + k ≤ 1000000)
    (h : ∀ a' cap' w', Own w' e 1 a' cap' (n + k) (byteV (l ++ List.replicate k 0)) → Keeps (blkOf a) w w' → (∀ x, blkOf a' x → blkOf a x ∨ w.heap.size ≤ x) → wpList P ops Q rest (A.put o.dst (.slice a' (n + k) cap')) w') :
    wpList P ops Q (o :: rest) A w := by
  obtain ⟨a', cap', w', hrun, h1, h2, h3⟩ := run_zerosO (P := P) t tn o.type e kn kq ht htn hi hown hb k hn
  refine wpList_go hw fun K hK' => ?_
  unfold Oper.wp
  simp [execOp, ho, resolve, invoke, builtin, hs, hx, hrun, Result.andThen]
  exact hK' _ _ (h a' cap' w' h1 h2 h3)
end Go.Proofs.YtkefbgkdkmkghaaDoor
