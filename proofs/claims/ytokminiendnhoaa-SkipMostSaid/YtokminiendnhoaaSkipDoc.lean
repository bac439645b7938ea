/-
  The document's keys for later: place, Find, Take, Put.
-/
import Derived.Test.YtokminiendnhoaaSkipFirst
import Derived.Test.YtokminiendnhoaaRegion
import Derived.Deep.DeepCutAuto
import Derived.Deep.CutRange
import Derived.Deep.CutBlock
namespace Go.Proofs.Ytokminiendnhoaa
set_option linter.unusedSimpArgs false
set_option linter.unusedVariables false
open Go.RowKit

/-- A new block, the world a letter. -/
theorem alloc1 (w : World) (c1 : List Value) (T1 : TypeId) : ∃ wA g, g = w.heap.size ∧ Blk wA g c1 T1 ∧ wA = w.alloc (.cells c1.toArray T1) ∧ Keeps Nil w wA :=
  ⟨_, _, rfl, Blk.new _ _ _, rfl, (Keeps.refl _ _).alloc _⟩
/-- A binary operation whose run is known yields its value. -/
theorem yieldsIf_bin {P : Program} {ops : Array Oper} {S : World → Prop} {o : Oper} {a : Act} (hw : Region.wanted o (yielded ops a.tmps) = true) (op : BinOp) (t : TypeId) (x y : Operand) (t' : TypeId) (ho : o.op = .binOp op t x y t') (vx vy : Value) (hx : a.eval x = vx) (hy : a.eval y = vy)
    (v : Value) (hr : ∀ w, (binOp op t vx vy).run P w = .ok v w) (hg : ∀ w, (eqGuard op t x y vx vy).run P w = .ok () w) : YieldsIf P ops S o v a :=
  .inl ⟨hw, fun w _ => by
    unfold execOp
    simp only [ho, hx, hy, Sem.run_bind, hr, hg, Result.andThen_ok]
    rfl⟩
theorem Try.eqgK : Try.prog.eqGuardType Try.prog.depth 37 = false := by kernel_rfl
theorem Try.guardK (op : BinOp) (x y : Operand) (xs ys : Array Value) (w : World) : (eqGuard op 37 x y (.agg xs) (.agg ys)).run Try.prog w = .ok () w := run_eqGuard_agg w op _ x y xs ys Try.eqgK
theorem Try.undDe : ∃ fs, Try.prog.underlying 66 = some (.struct fs) := ⟨_, Try.underlying66⟩
theorem Try.infoDe : (Try.prog.info? 66).map (·.size) = some 65 := by kernel_rfl
theorem Try.infoDe0 : (Try.prog.info? 66).map (fun i => (i.zero.map (·.cells.size), i.size, i.bytes)) = some (some 65, 65, 68) := by kernel_rfl

/-- Entries that are only read. -/
structure EntsAt (w : World) (a : Option Addr) (cap : Nat) (l : List Ent) : Prop where
  c : l.length ≤ cap
  m : cap ≤ 9223372036854775807
  at_ : (a = none ∧ l = [] ∧ cap = 0) ∨ ∃ b off, a = some ⟨b, off, none⟩ ∧ b < w.heap.size ∧ w.rangeAt b off (entsV l)
section
variable {w w' : World} {g cap : Nat} {a : Option Addr} {l : List Ent}
theorem EntsAt.keep {S : Nat → Prop} (h : EntsAt w a cap l) (hk : Keeps S w w') (hn : ∀ k, blkOf a k → ¬ S k) : EntsAt w' a cap l :=
  ⟨h.c, h.m, h.at_.imp id (fun ⟨b, off, ha, hb, hr⟩ => ⟨b, off, ha, Nat.lt_of_lt_of_le hb hk.size, fun j v hv => hk.cell (hr j v hv) (hn b (by rw [ha]; exact (blkOf_some _ _ _ _).2 rfl))⟩)⟩
theorem EntsAt.lt (h : EntsAt w a cap l) : ∀ k, blkOf a k → k < w.heap.size := fun k hk => by
  rcases h.at_ with ⟨rfl, _⟩ | ⟨b, off, rfl, hb, _⟩
  · exact (blkOf_none k hk).elim
  · rw [(blkOf_some _ _ _ _).1 hk]; exact hb
theorem EntsAt.src (h : EntsAt w a cap l) (hw : ∀ e ∈ l, WfE e) : Src w a l.length cap 65 (entsV l) :=
  ⟨entsV_length hw, oneCell_entsV l, by
    rcases h.at_ with ⟨rfl, h1, h2⟩ | ⟨b, off, rfl, _, hr⟩
    · subst h1; exact .inl ⟨rfl, rfl, h2⟩
    · exact .inr ⟨_, rfl, fun j u hu => by rw [Addr.add_lit]; exact hr j u hu⟩⟩
theorem entsV_take {l : List Ent} (h : ∀ e ∈ l, WfE e) (k : Nat) (hk : k ≤ l.length) : entsV (l.take k) = (entsV l).take (k * 65) := by
  have h1 : entsV l = entsV (l.take k) ++ entsV (l.drop k) := by rw [← entsV_append, List.take_append_drop]
  have h2 : (entsV (l.take k)).length = k * 65 := by
    rw [entsV_length (fun e he => h e (List.mem_of_mem_take he)), List.length_take, Nat.min_eq_left hk]
  rw [h1, ← h2, List.take_left']
  rfl
theorem entsV_drop {l : List Ent} (h : ∀ e ∈ l, WfE e) (k : Nat) (hk : k ≤ l.length) : entsV (l.drop k) = (entsV l).drop (k * 65) := by
  have h1 : entsV l = entsV (l.take k) ++ entsV (l.drop k) := by rw [← entsV_append, List.take_append_drop]
  have h2 : (entsV (l.take k)).length = k * 65 := by
    rw [entsV_length (fun e he => h e (List.mem_of_mem_take he)), List.length_take, Nat.min_eq_left hk]
  rw [h1, ← h2, List.drop_left']
  rfl
theorem EntsAt.take (h : EntsAt w a cap l) (hw : ∀ e ∈ l, WfE e) (k : Nat) (hk : k ≤ l.length) : EntsAt w a cap (l.take k) :=
  ⟨by rw [List.length_take]; have := h.c; omega, h.m, h.at_.imp (fun ⟨h1, h2, h3⟩ => ⟨h1, by rw [h2]; exact List.take_nil, h3⟩) (fun ⟨b, off, ha, hb, hr⟩ => ⟨b, off, ha, hb, fun j v hv => hr j v (by
    rw [entsV_take hw k hk, List.getElem?_take] at hv
    split at hv
    · exact hv
    · cases hv)⟩)⟩
theorem EntsAt.drop {b off : Nat} (h : EntsAt w (some ⟨b, off, none⟩) cap l) (hw : ∀ e ∈ l, WfE e) (k : Nat) (hk : k ≤ l.length) : EntsAt w (some ⟨b, off + k * 65, none⟩) (cap - k) (l.drop k) :=
  ⟨by rw [List.length_drop]; have := h.c; omega, by have := h.m; omega, .inr (by
    rcases h.at_ with ⟨ha, _⟩ | ⟨b', off', ha, hb, hr⟩
    · cases ha
    · cases ha
      exact ⟨b, _, rfl, hb, fun j v hv => by
        rw [entsV_drop hw k hk, List.getElem?_drop] at hv
        have := hr _ v hv
        rw [Nat.add_assoc]; exact this⟩)⟩
theorem EntsAt.some (h : EntsAt w a cap l) (hl : 0 < l.length) : ∃ b off, a = Option.some ⟨b, off, none⟩ ∧ b < w.heap.size := by
  rcases h.at_ with ⟨_, h1, _⟩ | ⟨b, off, ha, hb, _⟩
  · rw [h1] at hl; exact absurd hl (by simp)
  · exact ⟨b, off, ha, hb⟩
theorem EntsAt.ent {b off : Nat} (h : EntsAt w (Option.some ⟨b, off, none⟩) cap l) (hw : ∀ e ∈ l, WfE e) {i : Nat} {e : Ent} (hi : l[i]? = Option.some e) : w.rangeAt b (off + i * 65) (entV e) := by
  rcases h.at_ with ⟨ha, _⟩ | ⟨b', off', ha, hb, hr⟩
  · cases ha
  · cases ha
    intro j v hv
    have := hr (i * 65 + j) v (entsV_at hw i e hi j v hv)
    rw [Nat.add_assoc]; exact this
theorem EntsAt.of_own {E : TypeId} (h : Own w E 65 a cap l.length (entsV l)) : EntsAt w a cap l := by
  obtain ⟨h1, h2, h3, h4⟩ := h
  refine ⟨h2, by unfold maxLen at h3; omega, ?_⟩
  rcases h4 with ⟨h5, h6, h7⟩ | ⟨b, sp, rfl, hb, hl⟩
  · exact .inl ⟨h5, List.length_eq_zero_iff.1 h6, h7⟩
  · exact .inr ⟨b, 0, rfl, hb.lt, fun j v hv => hb.cell _ (by rw [Nat.zero_add, List.getElem?_append_left (List.getElem?_eq_some_iff.1 hv).1]; exact hv)⟩
end
/-- The document's store. -/
structure IsSk (w : World) (g : Nat) (a : Option Addr) (cap : Nat) (l : List Ent) : Prop where
  obj : Blk w g [.slice a l.length cap] 49
  ents : EntsAt w a cap l
  ne : ¬ blkOf a g
  wf : ∀ e ∈ l, WfE e
section
variable {w w' : World} {g cap : Nat} {a : Option Addr} {l : List Ent}
theorem IsSk.keep {S : Nat → Prop} (h : IsSk w g a cap l) (hk : Keeps S w w') (hn : ∀ k, stOf g a k → ¬ S k) : IsSk w' g a cap l :=
  ⟨h.obj.keep hk (hn g (.inl rfl)), h.ents.keep hk (fun k hk' => hn k (.inr hk')), h.ne, h.wf⟩
theorem IsSk.keep0 (h : IsSk w g a cap l) (hk : Keeps Nil w w') : IsSk w' g a cap l := h.keep hk (fun _ _ h => h)
theorem IsSk.lt (h : IsSk w g a cap l) : ∀ k, stOf g a k → k < w.heap.size := fun k hk => by
  rcases hk with rfl | hk
  · exact h.obj.lt
  · exact h.ents.lt k hk
/-- Its list is another one. -/
theorem IsSk.put (h : IsSk w g a cap l) {w1 : World} (hk : Keeps Nil w w1) {a' : Option Addr} {cap' : Nat} {l' : List Ent} (he : EntsAt w1 a' cap' l') (hne : ¬ blkOf a' g) (hw : ∀ e ∈ l', WfE e) :
    IsSk (w1.setCell ⟨g, 0, none⟩ (.slice a' l'.length cap')) g a' cap' l' ∧ Keeps (One g) w (w1.setCell ⟨g, 0, none⟩ (.slice a' l'.length cap')) := by
  have hko : Keeps (One g) w1 (w1.setCell ⟨g, 0, none⟩ (.slice a' l'.length cap')) := (Keeps.refl _ _).setOne _ _
  exact ⟨⟨(h.obj.keep0 hk).set 0 _, he.keep hko (fun k hk' e => hne (by rw [show k = g from e] at hk'; exact hk')), hne, hw⟩, hk.nil.trans hko⟩
end
set_option maxRecDepth 20000 in
set_option maxHeartbeats 1600000 in
theorem place_walk {w : World} {g cap : Nat} {a : Option Addr} {l : List Ent} (h : IsSk w g a cap l) (dh : List Int) (n : Int) (hd : dh.length = 32) (bd : AreB dh) :
    Calls Try.prog 30 #[.pointer (some ⟨g, 0, none⟩), keyV dh, .int .u32 n] w fun r w' => r = .returned (.int .i64 (placeE l dh n)) ∧ Keeps Nil w w' := by
  obtain ⟨wA, gd, hgd, hbd, hwA, hkA⟩ := alloc1 w (byteV dh) 37
  have HWA : Hid (w.alloc (.cells (byteV dh).toArray 37) = wA) := Lib.hid hwA.symm
  have HGD := Lib.hid hgd.symm
  have h1 := h.keep0 hkA
  have hl1 : (byteV dh).length = 32 := by simp [byteV, hd]
  have HX := Lib.hid (And.intro h1 (And.intro hbd (And.intro hkA hl1)))
  clear hgd hbd hwA h hl1
  have c0 := h1.obj.cell 0 rfl
  have hcp := h1.ents.c
  have hmx := h1.ents.m
  clear h1 hkA
  go_enter Try.func30, Try.ntmps30
  go_wp2_with fail
  rw [HWA.out, HGD.out]
  go_loopw [7] (fun v wr => ∃ j : Nat, j ≤ l.length ∧ v = .int .i64 j ∧ Hid (Keeps Nil wA wr) ∧ Hid (∀ t, t < j → ∀ e, l[t]? = some e → isE dh n e = false)) (fun v _ => l.length - (intOf v).toNat)
  case atStart => exact ⟨0, Nat.zero_le _, rfl, Keeps.refl _ _, fun t ht => by omega⟩
  case round =>
    obtain ⟨j, hj, rfl, hk, hall⟩ := hrel
    replace c0 := hk.out.cell c0 (fun h => h)
    by_cases hlt : j < l.length
    · obtain ⟨e, he⟩ : ∃ e, l[j]? = some e := ⟨_, List.getElem?_eq_getElem hlt⟩
      have hwe := HX.out.1.wf e (List.mem_of_getElem? he)
      obtain ⟨b, off, rfl, hb⟩ := (HX.out.1.ents.keep hk.out (fun _ _ h => h)).some (by omega)
      have hr := (HX.out.1.ents.keep hk.out (fun _ _ h => h)).ent HX.out.1.wf he
      have hN : (entV e)[64]? = some (.int .u32 e.2.2) := by
        unfold entV
        rw [List.getElem?_append_right (by simp [byteV, hwe.l1]), List.getElem?_append_right (by simp [byteV, hwe.l1, hwe.l2])]
        simp [byteV, hwe.l1, hwe.l2]
      have c64 := hr 64 _ hN
      have hrk : wr.rangeAt b (off + j * 65) (byteV e.1) := fun t v hv => hr t v (by
        unfold entV
        rw [List.getElem?_append_left (List.getElem?_eq_some_iff.1 hv).1]; exact hv)
      have hrd : wr.rangeAt gd 0 (byteV dh) := (HX.out.2.1.keep0 hk.out).range0
      have hle : (byteV e.1).length = 32 := by simp [byteV, hwe.l1]
      have hQ : ∀ w, (binOp .eql 37 (.agg (byteV e.1).toArray) (.agg (byteV dh).toArray)).run Try.prog w = .ok (.bool (e.1 == dh)) w := Try.eqlK hwe.l1 hd hwe.b1 bd
      have hj0 : (0 : Int) ≤ j := by omega
      have hj1 : (j : Int) < l.length := by omega
      have hies : isE dh n e = ((e.1 == dh) && (e.2.2 == n)) := rfl
      have HE := Lib.hid (And.intro he hies)
      have hUK := Try.undKey
      have hIK := Try.infoKey
      have HI1 : (Try.prog.info? 37).map (·.size) = some (byteV e.1).length := by rw [hle]; exact hIK
      have HI2 : (Try.prog.info? 37).map (·.size) = some (byteV dh).length := by rw [HX.out.2.2.2]; exact hIK
      clear he hr hwe hN hle hb hies
      generalize hL : l.length = L at *
      go_upto_region 4 with fail
      refine wp_region_held_drew (S := fun w' => w'.cell? ⟨g, 0, none⟩ = some (.slice (some ⟨b, off, none⟩) L cap) ∧ w'.cell? ⟨b, off + j * 65 + 64, none⟩ = some (.int .u32 e.2.2) ∧ w'.rangeAt b (off + j * 65) (byteV e.1) ∧ w'.rangeAt gd 0 (byteV dh)) (by kernel_rfl) ⟨c0, c64, hrk, hrd⟩ (fun hHeld => ?_)
      have hg := fun (U V : List Value) (x y : Operand) (w : World) => Try.guardK .eql x y U.toArray V.toArray w
      have HKD := Lib.hid (hk.out.drew)
      clear hrk hrd c64 c0
      generalize wr.drew = v0 at *
      generalize byteV e.1 = V1 at *
      generalize byteV dh = V2 at *
      have HALL := Lib.hid (show isE dh n e = false → ∀ t, t < j + 1 → ∀ e, l[t]? = some e → isE dh n e = false from fun hq t ht e' he' => by
        rcases Nat.lt_or_ge t j with h | h
        · exact hall.out t h e' he'
        · obtain rfl : t = j := by omega
          rw [HE.out.1] at he'
          rw [← Option.some.inj he']
          exact hq)
      have HFIN := Lib.hid (show isE dh n e = true → placeE l dh n = (j : Int) from fun hq => by
        unfold placeE
        rw [findE_skip dh n l j 0 hall.out, List.drop_eq_getElem_cons (by omega)]
        have : l[j]'(by omega) = e := by
          have := HE.out.1
          rw [List.getElem?_eq_getElem (by omega)] at this
          exact Option.some.inj this
        rw [this, findE, hq]
        simp)
      rw [HE.out.2] at HALL HFIN
      have HISE := Lib.hid HE.out.2
      clear HE hall hk
      generalize (e.1 == dh) = r1 at *
      generalize e.2.2 = en at *
      refine takeL (i := 0) (v := _) rfl (by kernel_rfl) (by kernel_rfl) (by kernel_rfl) (fun _ _ _ h => h) (Or.inl ⟨by rfl, by intro w hSw; (try dsimp only at hSw); go_simp; try with_reducible rfl⟩) (by assumption) ?_
      try simp only [Act.put, List.setIfInBounds_toArray, List.set_cons_zero, List.set_cons_succ]
      refine takeL (i := 1) (v := _) rfl (by kernel_rfl) (by kernel_rfl) (by kernel_rfl) (fun _ _ _ h => h) (Or.inl ⟨by rfl, by intro w hSw; (try dsimp only at hSw); go_simp; try with_reducible rfl⟩) (by assumption) ?_
      try simp only [Act.put, List.setIfInBounds_toArray, List.set_cons_zero, List.set_cons_succ]
      refine takeL (i := 2) (v := _) rfl (by kernel_rfl) (by kernel_rfl) (by kernel_rfl) (fun _ _ _ h => h) (Or.inl ⟨by rfl, by intro w hSw; (try dsimp only at hSw); go_simp; try with_reducible rfl⟩) (by assumption) ?_
      try simp only [Act.put, List.setIfInBounds_toArray, List.set_cons_zero, List.set_cons_succ]
      refine takeL (i := 3) (v := _) rfl (by kernel_rfl) (by kernel_rfl) (by kernel_rfl) (fun _ _ _ h => h) (Or.inl ⟨by rfl, by intro w hSw; (try dsimp only at hSw); go_simp; try with_reducible rfl⟩) (by assumption) ?_
      try simp only [Act.put, List.setIfInBounds_toArray, List.set_cons_zero, List.set_cons_succ]
      refine takeL (i := 4) (v := _) rfl (by kernel_rfl) (by kernel_rfl) (by kernel_rfl) (fun _ _ _ h => h) (Or.inl ⟨by rfl, by intro w hSw; (try dsimp only at hSw); go_simp; try with_reducible rfl⟩) (by assumption) ?_
      try simp only [Act.put, List.setIfInBounds_toArray, List.set_cons_zero, List.set_cons_succ]
      refine takeL (i := 5) (v := _) rfl (by kernel_rfl) (by kernel_rfl) (by kernel_rfl) (fun _ _ _ h => h) (Or.inl ⟨by rfl, by intro w hSw; (try dsimp only at hSw); go_simp; try with_reducible rfl⟩) (by assumption) ?_
      try simp only [Act.put, List.setIfInBounds_toArray, List.set_cons_zero, List.set_cons_succ]
      refine takeL (i := 6) (v := _) rfl (by kernel_rfl) (by kernel_rfl) (by kernel_rfl) (fun _ _ _ h => h) (Or.inl ⟨by rfl, by intro w hSw; (try dsimp only at hSw); go_simp; try with_reducible rfl⟩) (by assumption) ?_
      try simp only [Act.put, List.setIfInBounds_toArray, List.set_cons_zero, List.set_cons_succ]
      refine takeL (i := 7) (v := _) rfl (by kernel_rfl) (by kernel_rfl) (by kernel_rfl) (fun _ _ _ h => h) (yieldsIf_load_mid (by rfl) 37 _ rfl b (off+j*65) rfl (V1) _ (fun w hSw => hSw.2.2.1) hUK rfl HI1) (by assumption) ?_
      try simp only [Act.put, List.setIfInBounds_toArray, List.set_cons_zero, List.set_cons_succ]
      refine takeL (i := 8) (v := _) rfl (by kernel_rfl) (by kernel_rfl) (by kernel_rfl) (fun _ _ _ h => h) (yieldsIf_load_mid (by rfl) 37 _ rfl gd 0 rfl (V2) _ (fun w hSw => hSw.2.2.2) hUK rfl HI2) (by assumption) ?_
      try simp only [Act.put, List.setIfInBounds_toArray, List.set_cons_zero, List.set_cons_succ]
      refine takeL (i := 9) (v := _) rfl (by kernel_rfl) (by kernel_rfl) (by kernel_rfl) (fun _ _ _ h => h) (yieldsIf_bin (by rfl) _ _ _ _ _ rfl _ _ rfl rfl _ hQ (hg V1 V2 _ _)) (by assumption) ?_
      try simp only [Act.put, List.setIfInBounds_toArray, List.set_cons_zero, List.set_cons_succ]
      refine takeL (i := 10) (v := _) rfl (by kernel_rfl) (by kernel_rfl) (by kernel_rfl) (fun _ _ _ h => h) (Or.inl ⟨by rfl, by intro w hSw; (try dsimp only at hSw); go_simp; try with_reducible rfl⟩) (by assumption) ?_
      try simp only [Act.put, List.setIfInBounds_toArray, List.set_cons_zero, List.set_cons_succ]
      cases r1 with
      | false =>
        refine takeL (i := 11) (v := undef) rfl (by kernel_rfl) (by kernel_rfl) (by kernel_rfl) (fun _ _ _ h => h) (Or.inr ⟨by rfl, rfl⟩) (by assumption) ?_
        try simp only [Act.put, List.setIfInBounds_toArray, List.set_cons_zero, List.set_cons_succ]
        refine takeL (i := 12) (v := undef) rfl (by kernel_rfl) (by kernel_rfl) (by kernel_rfl) (fun _ _ _ h => h) (Or.inr ⟨by rfl, rfl⟩) (by assumption) ?_
        try simp only [Act.put, List.setIfInBounds_toArray, List.set_cons_zero, List.set_cons_succ]
        refine takeL (i := 13) (v := undef) rfl (by kernel_rfl) (by kernel_rfl) (by kernel_rfl) (fun _ _ _ h => h) (Or.inr ⟨by rfl, rfl⟩) (by assumption) ?_
        try simp only [Act.put, List.setIfInBounds_toArray, List.set_cons_zero, List.set_cons_succ]
        refine takeL (i := 14) (v := undef) rfl (by kernel_rfl) (by kernel_rfl) (by kernel_rfl) (fun _ _ _ h => h) (Or.inr ⟨by rfl, rfl⟩) (by assumption) ?_
        try simp only [Act.put, List.setIfInBounds_toArray, List.set_cons_zero, List.set_cons_succ]
        refine takeL (i := 15) (v := undef) rfl (by kernel_rfl) (by kernel_rfl) (by kernel_rfl) (fun _ _ _ h => h) (Or.inr ⟨by rfl, rfl⟩) (by assumption) ?_
        try simp only [Act.put, List.setIfInBounds_toArray, List.set_cons_zero, List.set_cons_succ]
        refine takeL (i := 16) (v := undef) rfl (by kernel_rfl) (by kernel_rfl) (by kernel_rfl) (fun _ _ _ h => h) (Or.inr ⟨by rfl, rfl⟩) (by assumption) ?_
        try simp only [Act.put, List.setIfInBounds_toArray, List.set_cons_zero, List.set_cons_succ]
        refine takeL (i := 17) (v := undef) rfl (by kernel_rfl) (by kernel_rfl) (by kernel_rfl) (fun _ _ _ h => h) (Or.inr ⟨by rfl, rfl⟩) (by assumption) ?_
        try simp only [Act.put, List.setIfInBounds_toArray, List.set_cons_zero, List.set_cons_succ]
        refine takeL (i := 18) (v := undef) rfl (by kernel_rfl) (by kernel_rfl) (by kernel_rfl) (fun _ _ _ h => h) (Or.inr ⟨by rfl, rfl⟩) (by assumption) ?_
        try simp only [Act.put, List.setIfInBounds_toArray, List.set_cons_zero, List.set_cons_succ]
        refine takeL (i := 19) (v := undef) rfl (by kernel_rfl) (by kernel_rfl) (by kernel_rfl) (fun _ _ _ h => h) (Or.inr ⟨by rfl, rfl⟩) (by assumption) ?_
        try simp only [Act.put, List.setIfInBounds_toArray, List.set_cons_zero, List.set_cons_succ]
        refine takeL (i := 20) (v := undef) rfl (by kernel_rfl) (by kernel_rfl) (by kernel_rfl) (fun _ _ _ h => h) (Or.inr ⟨by rfl, rfl⟩) (by assumption) ?_
        try simp only [Act.put, List.setIfInBounds_toArray, List.set_cons_zero, List.set_cons_succ]
        refine takeL (i := 21) (v := _) rfl (by kernel_rfl) (by kernel_rfl) (by kernel_rfl) (fun _ _ _ h => h) (Or.inl ⟨by rfl, by intro w hSw; (try dsimp only at hSw); go_simp; try with_reducible rfl⟩) (by assumption) ?_
        try simp only [Act.put, List.setIfInBounds_toArray, List.set_cons_zero, List.set_cons_succ]
        refine wpAnyH_done (by kernel_rfl) ?_ _
        clear hHeld
        go_wp2_with fail
        exact ⟨⟨j + 1, by omega, by go_num, HKD, Lib.hid (HALL.out rfl)⟩, by first | (simp [intOf]; done) | (simp [intOf]; omega)⟩
      | true =>
        refine takeL (i := 11) (v := _) rfl (by kernel_rfl) (by kernel_rfl) (by kernel_rfl) (fun _ _ _ h => h) (Or.inl ⟨by rfl, by intro w hSw; (try dsimp only at hSw); go_simp; try with_reducible rfl⟩) (by assumption) ?_
        try simp only [Act.put, List.setIfInBounds_toArray, List.set_cons_zero, List.set_cons_succ]
        refine takeL (i := 12) (v := _) rfl (by kernel_rfl) (by kernel_rfl) (by kernel_rfl) (fun _ _ _ h => h) (Or.inl ⟨by rfl, by intro w hSw; (try dsimp only at hSw); go_simp; try with_reducible rfl⟩) (by assumption) ?_
        try simp only [Act.put, List.setIfInBounds_toArray, List.set_cons_zero, List.set_cons_succ]
        refine takeL (i := 13) (v := _) rfl (by kernel_rfl) (by kernel_rfl) (by kernel_rfl) (fun _ _ _ h => h) (Or.inl ⟨by rfl, by intro w hSw; (try dsimp only at hSw); go_simp; try with_reducible rfl⟩) (by assumption) ?_
        try simp only [Act.put, List.setIfInBounds_toArray, List.set_cons_zero, List.set_cons_succ]
        refine takeL (i := 14) (v := _) rfl (by kernel_rfl) (by kernel_rfl) (by kernel_rfl) (fun _ _ _ h => h) (Or.inl ⟨by rfl, by intro w hSw; (try dsimp only at hSw); go_simp; try with_reducible rfl⟩) (by assumption) ?_
        try simp only [Act.put, List.setIfInBounds_toArray, List.set_cons_zero, List.set_cons_succ]
        refine takeL (i := 15) (v := _) rfl (by kernel_rfl) (by kernel_rfl) (by kernel_rfl) (fun _ _ _ h => h) (Or.inl ⟨by rfl, by intro w hSw; (try dsimp only at hSw); go_simp; try with_reducible rfl⟩) (by assumption) ?_
        try simp only [Act.put, List.setIfInBounds_toArray, List.set_cons_zero, List.set_cons_succ]
        refine takeL (i := 16) (v := _) rfl (by kernel_rfl) (by kernel_rfl) (by kernel_rfl) (fun _ _ _ h => h) (Or.inl ⟨by rfl, by intro w hSw; (try dsimp only at hSw); go_simp; try with_reducible rfl⟩) (by assumption) ?_
        try simp only [Act.put, List.setIfInBounds_toArray, List.set_cons_zero, List.set_cons_succ]
        refine takeL (i := 17) (v := _) rfl (by kernel_rfl) (by kernel_rfl) (by kernel_rfl) (fun _ _ _ h => h) (Or.inl ⟨by rfl, by intro w hSw; (try dsimp only at hSw); go_simp; try with_reducible rfl⟩) (by assumption) ?_
        try simp only [Act.put, List.setIfInBounds_toArray, List.set_cons_zero, List.set_cons_succ]
        refine takeL (i := 18) (v := _) rfl (by kernel_rfl) (by kernel_rfl) (by kernel_rfl) (fun _ _ _ h => h) (Or.inl ⟨by rfl, by intro w hSw; (try dsimp only at hSw); go_simp; try with_reducible rfl⟩) (by assumption) ?_
        try simp only [Act.put, List.setIfInBounds_toArray, List.set_cons_zero, List.set_cons_succ]
        refine takeL (i := 19) (v := _) rfl (by kernel_rfl) (by kernel_rfl) (by kernel_rfl) (fun _ _ _ h => h) (Or.inl ⟨by rfl, by intro w hSw; (try dsimp only at hSw); go_simp; try with_reducible rfl⟩) (by assumption) ?_
        try simp only [Act.put, List.setIfInBounds_toArray, List.set_cons_zero, List.set_cons_succ]
        refine takeL (i := 20) (v := _) rfl (by kernel_rfl) (by kernel_rfl) (by kernel_rfl) (fun _ _ _ h => h) (Or.inl ⟨by rfl, by intro w hSw; (try dsimp only at hSw); go_simp; try with_reducible rfl⟩) (by assumption) ?_
        try simp only [Act.put, List.setIfInBounds_toArray, List.set_cons_zero, List.set_cons_succ]
        refine takeL (i := 21) (v := _) rfl (by kernel_rfl) (by kernel_rfl) (by kernel_rfl) (fun _ _ _ h => h) (Or.inl ⟨by rfl, by intro w hSw; (try dsimp only at hSw); go_simp; try with_reducible rfl⟩) (by assumption) ?_
        try simp only [Act.put, List.setIfInBounds_toArray, List.set_cons_zero, List.set_cons_succ]
        refine wpAnyH_done (by kernel_rfl) ?_ _
        clear hHeld
        by_cases hq : en = n
        · have hb2 : (en == n) = true := by simpa using hq
          rw [hb2] at HFIN
          have HP := Lib.hid (HFIN.out rfl)
          have HK := Lib.hid (HX.out.2.2.1.trans HKD.out)
          go_wp2_with fail
          all_goals
            go_ret
            exact ⟨by rw [HP.out]; rfl, HK.out⟩
        · have hb2 : (en == n) = false := by simpa using hq
          rw [hb2] at HALL
          have HP := Lib.hid (HALL.out rfl)
          go_wp2_with fail
          exact ⟨⟨j + 1, by omega, by go_num, HKD, HP⟩, by first | (simp [intOf]; done) | (simp [intOf]; omega)⟩
    · obtain rfl : j = l.length := by omega
      have hfin : placeE l dh n = -1 := by
        unfold placeE
        rw [findE_skip dh n l l.length 0 hall.out, List.drop_length]
        rfl
      have HF := Lib.hid (And.intro hfin (HX.out.2.2.1.trans hk.out))
      clear hfin hall hk
      go_wp2_with fail
      go_ret
      exact ⟨by rw [HF.out.1]; rfl, HF.out.2⟩
end Go.Proofs.Ytokminiendnhoaa
