/-
  The program's disk: New.
-/
import Derived.Test.YtkefbgkdkmkghaaDoorDiskOps3
import Derived.Deep.DeepCutAuto
import Derived.Deep.CutRange
import Derived.Deep.CutBlock
namespace Go.Proofs.YtkefbgkdkmkghaaDoor
set_option linter.unusedSimpArgs false
set_option linter.unusedVariables false
open Go.RowKit

/-- make inside a region that draws its order. -/
theorem step_make {P : Program} {ops : Array Oper} {o : Oper} {a : Act} {w : World} {K : Act → World → Prop} {Q : Exit → Act → World → Prop} {E : Prop} (hg : o.guard = none) (l c : Operand) (t : TypeId) (hop : o.op = Op.makeSlice t l c) (e : TypeId) (z : Value) (B : Nat) (h1 : P.underlying t = some (.slice e))
    (hi : (P.info? e).map (fun i => (i.zero, i.size, i.bytes)) = some (some z, 1, B)) (hz : z.cells = #[z])
    (kl kc : IntKind) (n cap : Nat) (L C : Int) (hl : a.eval l = .int kl L) (hc : a.eval c = .int kc C) (hL : L = (n : Int)) (hC : C = (cap : Int)) (hlc : n ≤ cap) (b2 : B * cap ≤ 281474976710656) (b3 : cap ≤ maxLen)
    (h : ∀ g w', g = w.heap.size → Blk w' g (List.replicate cap z) e → Keeps Nil w w' → K (a.put o.dst (.slice (some ⟨g, 0, none⟩) n cap)) w') : if Region.wanted o (yielded ops a.tmps) = true then Oper.wp P o a w K Q else E := by
  have hw : Region.wanted o (yielded ops a.tmps) = true := by simp [Region.wanted, hg]
  rw [if_pos hw]
  subst hL hC
  obtain ⟨i, hie, hz0, hz1, hz2⟩ := info_parts hi
  have b3' := b3
  unfold maxLen at b3'
  subst hz2
  have hb2 : (i.bytes : Int) * (cap : Int) ≤ 281474976710656 := by
    have h : ((i.bytes * cap : Nat) : Int) ≤ 281474976710656 := by omega
    rwa [Int.natCast_mul] at h
  have hrun := run_make (P := P) w t e i z h1 hie hz0 kl kc n cap (by omega) (by omega) hb2 (by omega)
  simp only [Int.toNat_natCast] at hrun
  have hm : madeCells z.cells (cap * i.size) = (List.replicate cap z).toArray := by
    rw [hz1, Nat.mul_one, hz, ← toList_madeCells_one]
  rw [hm] at hrun
  have h9 := h _ _ rfl (Blk.new w (List.replicate cap z) e) ((Keeps.refl _ _).alloc _)
  unfold Oper.wp
  simp [execOp, hop, hl, hc, hrun, Result.andThen]
  exact h9
theorem step_bsOneK {P : Program} {ops : Array Oper} {o : Oper} {a : Act} {w : World} {K : Act → World → Prop} {Q : Exit → Act → World → Prop} {E : Prop} (hg : o.guard = none) (t e : TypeId) (parts : Array (Nat × Operand)) (ho : o.op = .buildSlice t 1 parts)
    (vs : List Value) (v : Value) (hv : v.cells = vs.toArray) (size : Nat) (hu : P.underlying t = some (.slice e)) (hi : (P.info? e).map (fun i => (i.zero.map (·.cells.size), i.size)) = some (some size, size)) (hpos : 0 < size) (hsm : size ≤ 2 ^ 24) (hlen : vs.length = size)
    (hparts : (parts.map fun (i, x) => (i, a.eval x)).toList = [(0, v)])
    (h : ∀ g w', g = w.heap.size → Blk w' g vs e → Keeps Nil w w' → K (a.put o.dst (.slice (some ⟨g, 0, none⟩) 1 1)) w') : if Region.wanted o (yielded ops a.tmps) = true then Oper.wp P o a w K Q else E :=
  step_bsOne hg t e parts ho vs v hv size hu hi hpos hsm hlen hparts (h _ _ rfl (Blk.new _ _ _) ((Keeps.refl _ _).alloc _))
theorem src_blk {w : World} {g size : Nat} {vs : List Value} {T : TypeId} (h : Blk w g vs T) (hn : vs.length = size) (h1 : ∀ u ∈ vs, u.oneCell' = true) : Src w (some ⟨g, 0, none⟩) 1 1 size vs :=
  ⟨by omega, h1, .inr ⟨_, rfl, fun j u hu => by
    have := h.cell j hu
    rw [Addr.add_lit]
    simpa using this⟩⟩
/-- One more sector behind the others. -/
theorem DiskAt.more {w w' : World} {p : Nat} {R : Roles} {d : Dk} {a : Option Addr} {cap : Nat} {tab : List (Value × Value)} (h : DiskAt w p R d a cap tab) {g1 c1 : Nat} {b : List Int} (hg : w.heap.size ≤ g1) (hg' : g1 < w'.heap.size) (hr : Row .u8 w' (some ⟨g1, 0, none⟩) 128 b)
    (hk : Keeps (fun k => R k = 2 ∨ R k = 3) w w') {ga cap' : Nat} (ho : Own w' 85 2 (some ⟨ga, 0, none⟩) cap' (d.vs.length + 1) (flatT (tab ++ [(.slice (some ⟨g1, 0, none⟩) 128 c1, .slice none 0 0)])))
    (ha : R ga = 3 ∨ (w.heap.size ≤ ga ∧ ga ≠ g1)) (hb : Blk w' p [.slice (some ⟨ga, 0, none⟩) (d.vs.length + 1) cap', .bool d.off, .int .i64 d.left] 82) :
    ∃ R', DiskAt w' p R' { d with vs := d.vs ++ [[b]] } (some ⟨ga, 0, none⟩) cap' (tab ++ [(.slice (some ⟨g1, 0, none⟩) 128 c1, .slice none 0 0)]) ∧ (∀ k, k < w.heap.size → R' k = R k) := by
  have hga := ho.lt ga ((blkOf_some _ _ _ _).2 rfl)
  have h1a : g1 ≠ ga := fun e => by
    rcases ha with h1 | h1
    · have := h.lt ga (by rw [h1]; decide); omega
    · exact h1.2 e.symm
  have hR : ∀ x, x < w.heap.size → upd (upd R g1 1) ga 3 x = R x := fun x hx => by
    by_cases hx4 : x = ga
    · subst hx4
      rw [upd_self]
      rcases ha with h1 | h1
      · exact h1.symm
      · omega
    · rw [upd_ne _ _ hx4, upd_ne _ _ (by omega)]
  have hp := h.obj.lt
  refine ⟨upd (upd R g1 1) ga 3, ⟨fun x hx => ?_, by rw [hR p hp]; exact h.me, by rw [List.length_append]; exact hb, by rw [List.length_append]; exact ho, by rw [List.length_append, List.length_append, h.len]; rfl, fun x hx => by rw [(blkOf_some _ _ _ _).1 hx]; exact upd_self _ _ _, fun i hi => ?_⟩, hR⟩
  · by_cases hx4 : x = ga
    · omega
    · rw [upd_ne _ _ hx4] at hx
      by_cases hx1 : x = g1
      · omega
      · rw [upd_ne _ _ hx1] at hx
        have := h.lt x hx
        have := hk.size
        omega
  · rw [List.length_append, List.length_singleton] at hi
    by_cases hil : i < d.vs.length
    · have e1 : (tab ++ [(Value.slice (some ⟨g1, 0, none⟩) 128 c1, Value.slice none 0 0)]).getD i (undef, undef) = tab.getD i (undef, undef) := by simp [List.getD, List.getElem?_append, h.len, hil]
      have e2 : Dk.at_ { d with vs := d.vs ++ [[b]] } i = d.at_ i := by simp [Dk.at_, List.getD, List.getElem?_append, hil]
      rw [e1, e2]
      exact ⟨(h.secs i hil).1.keep hk (fun k h1 e => by omega) hR, (h.secs i hil).2.keep hk (fun k h1 e => by omega) hR⟩
    · obtain rfl : i = d.vs.length := by omega
      have e1 : (tab ++ [(Value.slice (some ⟨g1, 0, none⟩) 128 c1, Value.slice none 0 0)]).getD d.vs.length (undef, undef) = (Value.slice (some ⟨g1, 0, none⟩) 128 c1, Value.slice none 0 0) := by simp [List.getD, List.getElem?_append, h.len]
      have e2 : Dk.at_ { d with vs := d.vs ++ [[b]] } d.vs.length = [b] := by simp [Dk.at_, List.getD, List.getElem?_append]
      rw [e1, e2]
      refine ⟨⟨g1, 0, c1, rfl, hr, by rw [upd_ne _ _ h1a, upd_self], hg'⟩, none, 0, [], rfl, Own.nil _ _ _, fun k hk => (blkOf_none k hk).elim, fun j hj => ?_⟩
      simp at hj
theorem byteV_zsec : byteV zsec = List.replicate 128 (.int .u8 0) := by simp [byteV, zsec]
theorem Tryd.infoU8z : (Tryd.prog.info? 5).map (fun i => (i.zero, i.size, i.bytes)) = some (some (.int .u8 0), 1, 1) := by kernel_rfl
theorem Tryd.builtSec (g : Nat) : Tryd.prog.built 85 [(0, .slice (some ⟨g, 0, none⟩) 128 128)] = some [.slice (some ⟨g, 0, none⟩) 128 128, .slice none 0 0].toArray := by kernel_rfl
theorem Tryd.sizeSecs : (Tryd.prog.info? 80).map (·.size) = some 1 := by kernel_rfl
/-- How many sectors New makes. -/
def newN (n : Int) : Nat := (min (max n 1) 400).toNat
theorem newN_le (n : Int) : newN n ≤ 400 ∧ 1 ≤ newN n ∧ (newN n : Int) = min (max n 1) 400 := by unfold newN; omega
/-- What New leaves. -/
def NewP (w : World) (d : Dk) (e : Ending) (w' : World) : Prop := ∃ p R, e = .returned (.pointer (some ⟨p, 0, none⟩)) ∧ IsDisk w' p R d ∧ Keeps Nil w w' ∧ ∀ k, R k ≠ 0 → w.heap.size ≤ k
theorem diskNew0 {w : World} {p : Nat} (hp : w.heap.size ≤ p) {w' : World} (hb : Blk w' p [.slice none 0 0, .bool false, .int .i64 (-1)] 82) : DiskAt w' p (upd (fun _ => 0) p 2) (Dk.new 0) none 0 [] ∧ ∀ k, upd (fun _ => 0) p 2 k ≠ 0 → w.heap.size ≤ k := by
  have hlt := hb.lt
  have hR : ∀ k, upd (fun _ => 0) p 2 k ≠ 0 → k = p := fun k hk => by
    by_cases h : k = p
    · exact h
    · rw [upd_ne _ _ h] at hk; exact (hk rfl).elim
  exact ⟨⟨fun k hk => by rw [hR k hk]; exact hlt, upd_self _ _ _, hb, Own.nil _ _ _, rfl, fun k hk => (blkOf_none k hk).elim, fun i hi => absurd hi (by simp [Dk.new])⟩, fun k hk => by rw [hR k hk]; exact hp⟩
theorem Dk.new_succ (j : Nat) : Dk.new (j + 1) = { Dk.new j with vs := (Dk.new j).vs ++ [[zsec]] } := by
  unfold Dk.new
  rw [List.replicate_succ']
theorem Dk.new_len (j : Nat) : (Dk.new j).vs.length = j := by simp [Dk.new]
set_option maxRecDepth 20000 in
set_option maxHeartbeats 1600000 in
theorem new_walk (w : World) (n : Int) :
    Calls Tryd.prog 14 #[.int .i64 n] w (NewP w (Dk.new (newN n))) := by
  obtain ⟨hN1, hN2, hN3⟩ := newN_le n
  generalize newN n = N at *
  have HN : Hid (min (max n 1) 400 = (N : Int)) := Lib.hid hN3.symm
  clear hN3
  obtain ⟨w1, g, hg, hb, hw1, hk1⟩ := alloc1 w [.slice none 0 0, .bool false, .int .i64 (-1)] 82
  have HB := Lib.hid (And.intro (diskNew0 (Nat.le_of_eq hg.symm) hb) hk1)
  have HW := Lib.hid hw1
  have HG := Lib.hid hg
  clear hb hk1 hg hw1
  go_enter Tryd.func14, Tryd.ntmps14
  go_upto_region 2 with fail
  rw [← HG.out, ← HW.out]
  go_cut [8, 9] from 6 to 24 (fun b x wx => b = .int .i64 N ∧ x = .int .i64 0 ∧ w1 = wx)
  case first =>
    go_wp2_with fail
    all_goals
      go_meet
      exact ⟨congrArg (Value.int .i64) (by have := HN.out; omega), rfl, rfl⟩
  case rest =>
  obtain ⟨rfl, rfl, rfl⟩ := hcut
  go_wp2_with fail
  go_loopw [9] (fun x wr => ∃ (j : Nat) (R : Roles), x = .int .i64 j ∧ j ≤ N ∧ Hid (IsDisk wr g R (Dk.new j)) ∧ Hid (Keeps Nil w wr) ∧ Hid (∀ k, R k ≠ 0 → w.heap.size ≤ k)) (fun x _ => N - (intOf x).toNat)
  case atStart => exact ⟨0, _, rfl, Nat.zero_le _, Lib.hid HB.out.1.1.is, Lib.hid HB.out.2, Lib.hid HB.out.1.2⟩
  case round =>
    obtain ⟨j, R, rfl, hj, hD, hkj, hf⟩ := hrel
    by_cases hjn : j < N
    · obtain ⟨a, cap, tab, hA⟩ := hD.out
      have c0 := hA.obj.cell 0 rfl
      have hgl := hA.obj.lt
      rw [Dk.new_len] at c0
      have hj0 : (0 : Int) ≤ j := by omega
      have hj1 : (j : Int) < N := by omega
      go_upto_region 4 with fail
      refine wp_region_held_drew (S := fun _ => True) (by kernel_rfl) trivial (fun hHeld => ?_)
      have hkd : Keeps Nil wr wr.drew := (Keeps.refl Nil wr).drew
      replace c0 := hkd.cell c0 (fun h => h)
      have HKD := Lib.hid hkd
      have HA := Lib.hid (hA.keep0 hkd)
      have hKw : Keeps Nil wr.drew wr.drew := Keeps.refl _ _
      clear hkd hA
      generalize wr.drew = v0 at *
      refine takeL (i := 0) (v := _) rfl (by kernel_rfl) (by kernel_rfl) (by kernel_rfl) (fun _ _ _ h => h) (Or.inl ⟨by rfl, by intro w hSw; (try dsimp only at hSw); go_simp; try with_reducible rfl⟩) (by assumption) ?_
      try simp only [Act.put, List.setIfInBounds_toArray, List.set_cons_zero, List.set_cons_succ]
      refine takeL (i := 1) (v := _) rfl (by kernel_rfl) (by kernel_rfl) (by kernel_rfl) (fun _ _ _ h => h) (Or.inl ⟨by rfl, by intro w hSw; (try dsimp only at hSw); go_simp; try with_reducible rfl⟩) (by assumption) ?_
      try simp only [Act.put, List.setIfInBounds_toArray, List.set_cons_zero, List.set_cons_succ]
      refine takeL (i := 2) (v := _) rfl (by kernel_rfl) (by kernel_rfl) (by kernel_rfl) (fun _ _ _ h => h) (Or.inl ⟨by rfl, by intro w hSw; (try dsimp only at hSw); go_simp; try with_reducible rfl⟩) (by assumption) ?_
      try simp only [Act.put, List.setIfInBounds_toArray, List.set_cons_zero, List.set_cons_succ]
      refine takeL (i := 3) (v := _) rfl (by kernel_rfl) (by kernel_rfl) (by kernel_rfl) (fun _ _ _ h => h) (Or.inl ⟨by rfl, by intro w hSw; (try dsimp only at hSw); go_simp; try with_reducible rfl⟩) (by assumption) ?_
      try simp only [Act.put, List.setIfInBounds_toArray, List.set_cons_zero, List.set_cons_succ]
      refine bothL (i := 4) (j := 5) rfl rfl (by kernel_rfl) (fun K hK => ?_) (fun K hK => ?_)
      · skip
        have c0x := hKw.cell c0 (fun h => h)
        go_simp
        clear c0x
        refine (fun hHeld => hK _ _ hHeld ?_) (trivial)
        clear hK
        try simp only [Act.put, List.setIfInBounds_toArray, List.set_cons_zero, List.set_cons_succ]
        refine onlyL (i := 5) rfl (by kernel_rfl) (fun K hK => ?_)
        refine step_make rfl _ _ 25 rfl 5 (.int .u8 0) 1 Tryd.underlying25 Tryd.infoU8z rfl .i64 .i64 128 128 128 128 rfl rfl rfl rfl (by decide) (by decide) (by unfold maxLen; decide) ?_
        intro g1 w2 hg1 hb1 qk
        have hg1v : v0.heap.size ≤ g1 := by have := hKw.size; omega
        clear hg1
        refine (fun hHeld => hK _ _ hHeld ?_) (trivial)
        clear hK
        try simp only [Act.put, List.setIfInBounds_toArray, List.set_cons_zero, List.set_cons_succ]
        have hbu := Tryd.builtSec g1
        refine takeL (i := 6) (v := .agg ([.slice (some ⟨g1, 0, none⟩) 128 128, .slice none 0 0]).toArray) rfl (by kernel_rfl) (by kernel_rfl) (by kernel_rfl) (fun _ _ _ h => h) (yieldsIf_build (by rfl) 85 _ rfl ([.slice (some ⟨g1, 0, none⟩) 128 128, .slice none 0 0]) _ hbu (by simp [Act.eval])) (by assumption) ?_
        try simp only [Act.put, List.setIfInBounds_toArray, List.set_cons_zero, List.set_cons_succ]
        clear hbu
        replace hKw := hKw.trans qk
        refine onlyL (i := 7) rfl (by kernel_rfl) (fun K hK => ?_)
        refine step_bsOneK rfl 80 85 _ rfl [.slice (some ⟨g1, 0, none⟩) 128 128, .slice none 0 0] (.agg [.slice (some ⟨g1, 0, none⟩) 128 128, .slice none 0 0].toArray) rfl 2 Tryd.underlying80 Tryd.infoSec2 (by omega) (by omega) rfl (by simp [Act.eval]) ?_
        intro g2 w3 hg2 hb2 qk
        clear hg2
        refine (fun hHeld => hK _ _ hHeld ?_) (trivial)
        clear hK
        try simp only [Act.put, List.setIfInBounds_toArray, List.set_cons_zero, List.set_cons_succ]
        replace hKw := hKw.trans qk
        replace hb1 := hb1.keep0 qk
        have hsrc := src_blk hb2 rfl (size := 2) (fun u hu => by
          rcases List.mem_cons.1 hu with rfl | hu
          · rfl
          · rw [List.mem_singleton.1 hu]; rfl)
        have hown := HA.out.own.keep0 (hKw)
        rw [Dk.new_len] at hown
        refine onlyL (i := 8) rfl (by kernel_rfl) (fun K hK => ?_)
        refine step_appendO rfl _ _ 80 rfl 85 2 48 Tryd.underlying80 Tryd.infoSec3 (by omega) a cap j (flatT tab) rfl hown (some ⟨g2, 0, none⟩) 1 1 [.slice (some ⟨g1, 0, none⟩) 128 128, .slice none 0 0] rfl hsrc (by unfold maxLen; omega) (by omega) ?_
        intro a4 cap4 w4 ho4 qk4 hf4
        obtain ⟨g4, hg4, _, _⟩ := ho4.some (by omega)
        subst hg4
        have hrole : ∀ k, blkOf a k → R k = 3 := HA.out.role
        have hgn : ¬ blkOf a g := fun e => by have h1 := hrole g e; have := HA.out.me; omega
        have hb4 : Blk w4 g [.slice a (Dk.new j).vs.length cap, .bool false, .int .i64 (-1)] 82 := (HA.out.obj.keep0 hKw).keep qk4 hgn
        have hcl4 := hb4.cell 0 rfl
        have hfz4 := hb4.frozen 0
        refine (fun hHeld => hK _ _ hHeld ?_) (trivial)
        clear hK
        try simp only [Act.put, List.setIfInBounds_toArray, List.set_cons_zero, List.set_cons_succ]
        refine takeL (i := 9) (v := _) rfl (by kernel_rfl) (by kernel_rfl) (by kernel_rfl) (fun _ _ _ h => h) (Or.inl ⟨by rfl, by intro w hSw; (try dsimp only at hSw); go_simp; try with_reducible rfl⟩) (by assumption) ?_
        try simp only [Act.put, List.setIfInBounds_toArray, List.set_cons_zero, List.set_cons_succ]
        refine takeL (i := 10) (v := _) rfl (by kernel_rfl) (by kernel_rfl) (by kernel_rfl) (fun _ _ _ h => h) (Or.inl ⟨by rfl, by intro w hSw; (try dsimp only at hSw); go_simp; try with_reducible rfl⟩) (by assumption) ?_
        try simp only [Act.put, List.setIfInBounds_toArray, List.set_cons_zero, List.set_cons_succ]
        refine onlyL (i := 11) rfl (by kernel_rfl) (fun K hK => ?_)
        refine step_storeS rfl 80 Tryd.sizeSecs _ _ rfl g 0 rfl (some ⟨g4, 0, none⟩) (j + 1) cap4 rfl hcl4 hfz4 ?_
        have hz := hb4.set 0 (.slice (some ⟨g4, 0, none⟩) (j + 1) cap4)
        have hks : Keeps (One g) w4 (w4.setCell ⟨g, 0, none⟩ (.slice (some ⟨g4, 0, none⟩) (j + 1) cap4)) := (Keeps.refl _ _).setOne _ _
        generalize w4.setCell ⟨g, 0, none⟩ (.slice (some ⟨g4, 0, none⟩) (j + 1) cap4) = w5 at *
        have hlt1 := hb1.lt
        have hv3 := hKw.size
        have hg4c : R g4 = 3 ∨ g4 = w3.heap.size := (hf4 g4 ((blkOf_some _ _ _ _).2 rfl)).imp (hrole g4) id
        have hgR : R g = 2 := HA.out.me
        have hgv : g < v0.heap.size := HA.out.obj.lt
        have hmore := HA.out.more (w' := w5) (g1 := g1) (c1 := 128) (b := zsec) (ga := g4) (cap' := cap4) (by omega) (by have := qk4.size; have := hks.size; omega)
          (((byteV_zsec ▸ hb1 : Blk w3 g1 (byteV zsec) 5).keep qk4 (fun e => by have := HA.out.own.lt _ e; omega)).keep hks (fun e => by have : g1 = g := e; omega) |>.row8 zsec_bytes zsec_len (by omega))
          ((hKw.nil.step qk4 (fun x hx => .inl (.inr (hrole x hx)))).step hks (fun x hx => .inl (.inl (by rw [show x = g from hx]; exact hgR))))
          (by rw [flatT_append, Dk.new_len]; exact ho4.keep hks (fun x hx e => by
                have h1 := (blkOf_some _ _ _ _).1 hx
                have h2 : x = g := e
                rcases hg4c with h3 | h3
                · rw [← h1, h2] at h3; omega
                · omega))
          (hg4c.imp id (fun h => by omega))
          (by rw [Dk.new_len]; exact hz)
        obtain ⟨R', hmA, hRR⟩ := hmore
        refine (fun hHeld => hK _ _ hHeld ?_) (trivial)
        clear hK
        try simp only [Act.put, List.setIfInBounds_toArray, List.set_cons_zero, List.set_cons_succ]
        refine wpAnyH_done (by kernel_rfl) ?_ _
        have HX : Hid (IsDisk w5 g R' (Dk.new (j + 1)) ∧ Keeps Nil w w5 ∧ ∀ k, R' k ≠ 0 → w.heap.size ≤ k) := by
          refine Lib.hid ⟨by rw [Dk.new_succ]; exact hmA.is, ?_, fun k hk => ?_⟩
          · refine (((hkj.out.trans HKD.out).trans hKw).step qk4 (fun x hx => .inr (hf.out x (by rw [hrole x hx]; decide)))).step hks (fun x hx => .inr (hf.out x (by rw [show x = g from hx, hgR]; decide)))
          · rcases Nat.lt_or_ge k v0.heap.size with h | h
            · rw [hRR k h] at hk; exact hf.out k hk
            · have := hkj.out.size; have := HKD.out.size; omega
        clear hmA hRR hz hks hcl4 hfz4 hb4 ho4 qk4 hf4 hown hsrc hb2 hb1 c0 hg1v hrole hgn hg4c hlt1 hv3 hgR hgv hgl hKw
        go_wp2_with fail
        exact ⟨⟨j + 1, R', by go_num, by omega, Lib.hid HX.out.1, Lib.hid HX.out.2.1, Lib.hid HX.out.2.2⟩, by first | (simp [intOf]; done) | (simp [intOf]; omega)⟩
      · skip
        refine step_make rfl _ _ 25 rfl 5 (.int .u8 0) 1 Tryd.underlying25 Tryd.infoU8z rfl .i64 .i64 128 128 128 128 rfl rfl rfl rfl (by decide) (by decide) (by unfold maxLen; decide) ?_
        intro g1 w2 hg1 hb1 qk
        have hg1v : v0.heap.size ≤ g1 := by have := hKw.size; omega
        clear hg1
        refine (fun hHeld => hK _ _ hHeld ?_) (trivial)
        clear hK
        try simp only [Act.put, List.setIfInBounds_toArray, List.set_cons_zero, List.set_cons_succ]
        have hbu := Tryd.builtSec g1
        refine takeL (i := 6) (v := .agg ([.slice (some ⟨g1, 0, none⟩) 128 128, .slice none 0 0]).toArray) rfl (by kernel_rfl) (by kernel_rfl) (by kernel_rfl) (fun _ _ _ h => h) (yieldsIf_build (by rfl) 85 _ rfl ([.slice (some ⟨g1, 0, none⟩) 128 128, .slice none 0 0]) _ hbu (by simp [Act.eval])) (by assumption) ?_
        try simp only [Act.put, List.setIfInBounds_toArray, List.set_cons_zero, List.set_cons_succ]
        clear hbu
        replace hKw := hKw.trans qk
        refine bothL (i := 4) (j := 7) rfl rfl (by kernel_rfl) (fun K hK => ?_) (fun K hK => ?_)
        · skip
          have c0x := hKw.cell c0 (fun h => h)
          go_simp
          clear c0x
          refine (fun hHeld => hK _ _ hHeld ?_) (trivial)
          clear hK
          try simp only [Act.put, List.setIfInBounds_toArray, List.set_cons_zero, List.set_cons_succ]
          refine onlyL (i := 7) rfl (by kernel_rfl) (fun K hK => ?_)
          refine step_bsOneK rfl 80 85 _ rfl [.slice (some ⟨g1, 0, none⟩) 128 128, .slice none 0 0] (.agg [.slice (some ⟨g1, 0, none⟩) 128 128, .slice none 0 0].toArray) rfl 2 Tryd.underlying80 Tryd.infoSec2 (by omega) (by omega) rfl (by simp [Act.eval]) ?_
          intro g2 w3 hg2 hb2 qk
          clear hg2
          refine (fun hHeld => hK _ _ hHeld ?_) (trivial)
          clear hK
          try simp only [Act.put, List.setIfInBounds_toArray, List.set_cons_zero, List.set_cons_succ]
          replace hKw := hKw.trans qk
          replace hb1 := hb1.keep0 qk
          have hsrc := src_blk hb2 rfl (size := 2) (fun u hu => by
            rcases List.mem_cons.1 hu with rfl | hu
            · rfl
            · rw [List.mem_singleton.1 hu]; rfl)
          have hown := HA.out.own.keep0 (hKw)
          rw [Dk.new_len] at hown
          refine onlyL (i := 8) rfl (by kernel_rfl) (fun K hK => ?_)
          refine step_appendO rfl _ _ 80 rfl 85 2 48 Tryd.underlying80 Tryd.infoSec3 (by omega) a cap j (flatT tab) rfl hown (some ⟨g2, 0, none⟩) 1 1 [.slice (some ⟨g1, 0, none⟩) 128 128, .slice none 0 0] rfl hsrc (by unfold maxLen; omega) (by omega) ?_
          intro a4 cap4 w4 ho4 qk4 hf4
          obtain ⟨g4, hg4, _, _⟩ := ho4.some (by omega)
          subst hg4
          have hrole : ∀ k, blkOf a k → R k = 3 := HA.out.role
          have hgn : ¬ blkOf a g := fun e => by have h1 := hrole g e; have := HA.out.me; omega
          have hb4 : Blk w4 g [.slice a (Dk.new j).vs.length cap, .bool false, .int .i64 (-1)] 82 := (HA.out.obj.keep0 hKw).keep qk4 hgn
          have hcl4 := hb4.cell 0 rfl
          have hfz4 := hb4.frozen 0
          refine (fun hHeld => hK _ _ hHeld ?_) (trivial)
          clear hK
          try simp only [Act.put, List.setIfInBounds_toArray, List.set_cons_zero, List.set_cons_succ]
          refine takeL (i := 9) (v := _) rfl (by kernel_rfl) (by kernel_rfl) (by kernel_rfl) (fun _ _ _ h => h) (Or.inl ⟨by rfl, by intro w hSw; (try dsimp only at hSw); go_simp; try with_reducible rfl⟩) (by assumption) ?_
          try simp only [Act.put, List.setIfInBounds_toArray, List.set_cons_zero, List.set_cons_succ]
          refine takeL (i := 10) (v := _) rfl (by kernel_rfl) (by kernel_rfl) (by kernel_rfl) (fun _ _ _ h => h) (Or.inl ⟨by rfl, by intro w hSw; (try dsimp only at hSw); go_simp; try with_reducible rfl⟩) (by assumption) ?_
          try simp only [Act.put, List.setIfInBounds_toArray, List.set_cons_zero, List.set_cons_succ]
          refine onlyL (i := 11) rfl (by kernel_rfl) (fun K hK => ?_)
          refine step_storeS rfl 80 Tryd.sizeSecs _ _ rfl g 0 rfl (some ⟨g4, 0, none⟩) (j + 1) cap4 rfl hcl4 hfz4 ?_
          have hz := hb4.set 0 (.slice (some ⟨g4, 0, none⟩) (j + 1) cap4)
          have hks : Keeps (One g) w4 (w4.setCell ⟨g, 0, none⟩ (.slice (some ⟨g4, 0, none⟩) (j + 1) cap4)) := (Keeps.refl _ _).setOne _ _
          generalize w4.setCell ⟨g, 0, none⟩ (.slice (some ⟨g4, 0, none⟩) (j + 1) cap4) = w5 at *
          have hlt1 := hb1.lt
          have hv3 := hKw.size
          have hg4c : R g4 = 3 ∨ g4 = w3.heap.size := (hf4 g4 ((blkOf_some _ _ _ _).2 rfl)).imp (hrole g4) id
          have hgR : R g = 2 := HA.out.me
          have hgv : g < v0.heap.size := HA.out.obj.lt
          have hmore := HA.out.more (w' := w5) (g1 := g1) (c1 := 128) (b := zsec) (ga := g4) (cap' := cap4) (by omega) (by have := qk4.size; have := hks.size; omega)
            (((byteV_zsec ▸ hb1 : Blk w3 g1 (byteV zsec) 5).keep qk4 (fun e => by have := HA.out.own.lt _ e; omega)).keep hks (fun e => by have : g1 = g := e; omega) |>.row8 zsec_bytes zsec_len (by omega))
            ((hKw.nil.step qk4 (fun x hx => .inl (.inr (hrole x hx)))).step hks (fun x hx => .inl (.inl (by rw [show x = g from hx]; exact hgR))))
            (by rw [flatT_append, Dk.new_len]; exact ho4.keep hks (fun x hx e => by
                  have h1 := (blkOf_some _ _ _ _).1 hx
                  have h2 : x = g := e
                  rcases hg4c with h3 | h3
                  · rw [← h1, h2] at h3; omega
                  · omega))
            (hg4c.imp id (fun h => by omega))
            (by rw [Dk.new_len]; exact hz)
          obtain ⟨R', hmA, hRR⟩ := hmore
          refine (fun hHeld => hK _ _ hHeld ?_) (trivial)
          clear hK
          try simp only [Act.put, List.setIfInBounds_toArray, List.set_cons_zero, List.set_cons_succ]
          refine wpAnyH_done (by kernel_rfl) ?_ _
          have HX : Hid (IsDisk w5 g R' (Dk.new (j + 1)) ∧ Keeps Nil w w5 ∧ ∀ k, R' k ≠ 0 → w.heap.size ≤ k) := by
            refine Lib.hid ⟨by rw [Dk.new_succ]; exact hmA.is, ?_, fun k hk => ?_⟩
            · refine (((hkj.out.trans HKD.out).trans hKw).step qk4 (fun x hx => .inr (hf.out x (by rw [hrole x hx]; decide)))).step hks (fun x hx => .inr (hf.out x (by rw [show x = g from hx, hgR]; decide)))
            · rcases Nat.lt_or_ge k v0.heap.size with h | h
              · rw [hRR k h] at hk; exact hf.out k hk
              · have := hkj.out.size; have := HKD.out.size; omega
          clear hmA hRR hz hks hcl4 hfz4 hb4 ho4 qk4 hf4 hown hsrc hb2 hb1 c0 hg1v hrole hgn hg4c hlt1 hv3 hgR hgv hgl hKw
          go_wp2_with fail
          exact ⟨⟨j + 1, R', by go_num, by omega, Lib.hid HX.out.1, Lib.hid HX.out.2.1, Lib.hid HX.out.2.2⟩, by first | (simp [intOf]; done) | (simp [intOf]; omega)⟩
        · skip
          refine step_bsOneK rfl 80 85 _ rfl [.slice (some ⟨g1, 0, none⟩) 128 128, .slice none 0 0] (.agg [.slice (some ⟨g1, 0, none⟩) 128 128, .slice none 0 0].toArray) rfl 2 Tryd.underlying80 Tryd.infoSec2 (by omega) (by omega) rfl (by simp [Act.eval]) ?_
          intro g2 w3 hg2 hb2 qk
          clear hg2
          refine (fun hHeld => hK _ _ hHeld ?_) (trivial)
          clear hK
          try simp only [Act.put, List.setIfInBounds_toArray, List.set_cons_zero, List.set_cons_succ]
          replace hKw := hKw.trans qk
          replace hb1 := hb1.keep0 qk
          refine onlyL (i := 4) rfl (by kernel_rfl) (fun K hK => ?_)
          have c0x := hKw.cell c0 (fun h => h)
          go_simp
          clear c0x
          refine (fun hHeld => hK _ _ hHeld ?_) (trivial)
          clear hK
          try simp only [Act.put, List.setIfInBounds_toArray, List.set_cons_zero, List.set_cons_succ]
          have hsrc := src_blk hb2 rfl (size := 2) (fun u hu => by
            rcases List.mem_cons.1 hu with rfl | hu
            · rfl
            · rw [List.mem_singleton.1 hu]; rfl)
          have hown := HA.out.own.keep0 (hKw)
          rw [Dk.new_len] at hown
          refine onlyL (i := 8) rfl (by kernel_rfl) (fun K hK => ?_)
          refine step_appendO rfl _ _ 80 rfl 85 2 48 Tryd.underlying80 Tryd.infoSec3 (by omega) a cap j (flatT tab) rfl hown (some ⟨g2, 0, none⟩) 1 1 [.slice (some ⟨g1, 0, none⟩) 128 128, .slice none 0 0] rfl hsrc (by unfold maxLen; omega) (by omega) ?_
          intro a4 cap4 w4 ho4 qk4 hf4
          obtain ⟨g4, hg4, _, _⟩ := ho4.some (by omega)
          subst hg4
          have hrole : ∀ k, blkOf a k → R k = 3 := HA.out.role
          have hgn : ¬ blkOf a g := fun e => by have h1 := hrole g e; have := HA.out.me; omega
          have hb4 : Blk w4 g [.slice a (Dk.new j).vs.length cap, .bool false, .int .i64 (-1)] 82 := (HA.out.obj.keep0 hKw).keep qk4 hgn
          have hcl4 := hb4.cell 0 rfl
          have hfz4 := hb4.frozen 0
          refine (fun hHeld => hK _ _ hHeld ?_) (trivial)
          clear hK
          try simp only [Act.put, List.setIfInBounds_toArray, List.set_cons_zero, List.set_cons_succ]
          refine takeL (i := 9) (v := _) rfl (by kernel_rfl) (by kernel_rfl) (by kernel_rfl) (fun _ _ _ h => h) (Or.inl ⟨by rfl, by intro w hSw; (try dsimp only at hSw); go_simp; try with_reducible rfl⟩) (by assumption) ?_
          try simp only [Act.put, List.setIfInBounds_toArray, List.set_cons_zero, List.set_cons_succ]
          refine takeL (i := 10) (v := _) rfl (by kernel_rfl) (by kernel_rfl) (by kernel_rfl) (fun _ _ _ h => h) (Or.inl ⟨by rfl, by intro w hSw; (try dsimp only at hSw); go_simp; try with_reducible rfl⟩) (by assumption) ?_
          try simp only [Act.put, List.setIfInBounds_toArray, List.set_cons_zero, List.set_cons_succ]
          refine onlyL (i := 11) rfl (by kernel_rfl) (fun K hK => ?_)
          refine step_storeS rfl 80 Tryd.sizeSecs _ _ rfl g 0 rfl (some ⟨g4, 0, none⟩) (j + 1) cap4 rfl hcl4 hfz4 ?_
          have hz := hb4.set 0 (.slice (some ⟨g4, 0, none⟩) (j + 1) cap4)
          have hks : Keeps (One g) w4 (w4.setCell ⟨g, 0, none⟩ (.slice (some ⟨g4, 0, none⟩) (j + 1) cap4)) := (Keeps.refl _ _).setOne _ _
          generalize w4.setCell ⟨g, 0, none⟩ (.slice (some ⟨g4, 0, none⟩) (j + 1) cap4) = w5 at *
          have hlt1 := hb1.lt
          have hv3 := hKw.size
          have hg4c : R g4 = 3 ∨ g4 = w3.heap.size := (hf4 g4 ((blkOf_some _ _ _ _).2 rfl)).imp (hrole g4) id
          have hgR : R g = 2 := HA.out.me
          have hgv : g < v0.heap.size := HA.out.obj.lt
          have hmore := HA.out.more (w' := w5) (g1 := g1) (c1 := 128) (b := zsec) (ga := g4) (cap' := cap4) (by omega) (by have := qk4.size; have := hks.size; omega)
            (((byteV_zsec ▸ hb1 : Blk w3 g1 (byteV zsec) 5).keep qk4 (fun e => by have := HA.out.own.lt _ e; omega)).keep hks (fun e => by have : g1 = g := e; omega) |>.row8 zsec_bytes zsec_len (by omega))
            ((hKw.nil.step qk4 (fun x hx => .inl (.inr (hrole x hx)))).step hks (fun x hx => .inl (.inl (by rw [show x = g from hx]; exact hgR))))
            (by rw [flatT_append, Dk.new_len]; exact ho4.keep hks (fun x hx e => by
                  have h1 := (blkOf_some _ _ _ _).1 hx
                  have h2 : x = g := e
                  rcases hg4c with h3 | h3
                  · rw [← h1, h2] at h3; omega
                  · omega))
            (hg4c.imp id (fun h => by omega))
            (by rw [Dk.new_len]; exact hz)
          obtain ⟨R', hmA, hRR⟩ := hmore
          refine (fun hHeld => hK _ _ hHeld ?_) (trivial)
          clear hK
          try simp only [Act.put, List.setIfInBounds_toArray, List.set_cons_zero, List.set_cons_succ]
          refine wpAnyH_done (by kernel_rfl) ?_ _
          have HX : Hid (IsDisk w5 g R' (Dk.new (j + 1)) ∧ Keeps Nil w w5 ∧ ∀ k, R' k ≠ 0 → w.heap.size ≤ k) := by
            refine Lib.hid ⟨by rw [Dk.new_succ]; exact hmA.is, ?_, fun k hk => ?_⟩
            · refine (((hkj.out.trans HKD.out).trans hKw).step qk4 (fun x hx => .inr (hf.out x (by rw [hrole x hx]; decide)))).step hks (fun x hx => .inr (hf.out x (by rw [show x = g from hx, hgR]; decide)))
            · rcases Nat.lt_or_ge k v0.heap.size with h | h
              · rw [hRR k h] at hk; exact hf.out k hk
              · have := hkj.out.size; have := HKD.out.size; omega
          clear hmA hRR hz hks hcl4 hfz4 hb4 ho4 qk4 hf4 hown hsrc hb2 hb1 c0 hg1v hrole hgn hg4c hlt1 hv3 hgR hgv hgl hKw
          go_wp2_with fail
          exact ⟨⟨j + 1, R', by go_num, by omega, Lib.hid HX.out.1, Lib.hid HX.out.2.1, Lib.hid HX.out.2.2⟩, by first | (simp [intOf]; done) | (simp [intOf]; omega)⟩
    · obtain rfl : j = N := by omega
      have HF := Lib.hid (And.intro hD.out (And.intro hkj.out hf.out))
      go_wp2_with fail
      go_ret
      exact ⟨g, R, rfl, HF.out.1, HF.out.2.1, HF.out.2.2⟩
end Go.Proofs.YtkefbgkdkmkghaaDoor
