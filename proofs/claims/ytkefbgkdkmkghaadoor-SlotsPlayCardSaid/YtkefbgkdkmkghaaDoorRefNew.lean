/-
  The document's disk: NewDisk.
-/
import Derived.Test.YtkefbgkdkmkghaaDoorRefDisk2
namespace Go.Proofs.YtkefbgkdkmkghaaDoor
set_option linter.unusedSimpArgs false
set_option linter.unusedVariables false
open Go.RowKit

theorem Tryd.bsSls2 : (Tryd.prog.info? 83).map (fun i => (i.size, i.zero.isSome)) = some (1, true) := by kernel_rfl
theorem Tryd.infoSls2 : (Tryd.prog.info? 83).map (fun i => (i.zero.map (·.cells.size), i.size, i.bytes)) = some (some 1, 1, 24) := by kernel_rfl
theorem Tryd.sizeSls3 : (Tryd.prog.info? 54).map (·.size) = some 1 := by kernel_rfl
theorem RefAt.more {w w' : World} {p : Nat} {R : Roles} {d : Dk} {a : Option Addr} {cap : Nat} {tab : List Value} (h : RefAt w p R d a cap tab) {g1 c1 g6 : Nat} {b : List Int} (hg : w.heap.size ≤ g1) (hg6 : w.heap.size ≤ g6) (h16 : g1 < g6) (hg' : g6 < w'.heap.size) (hr : Row .u8 w' (some ⟨g1, 0, none⟩) 128 b)
    (hv : Blk w' g6 [.slice (some ⟨g1, 0, none⟩) 128 c1] 25)
    (hk : Keeps (fun k => R k = 2 ∨ R k = 3) w w') {ga cap' : Nat} (ho : Own w' 83 1 (some ⟨ga, 0, none⟩) cap' (d.vs.length + 1) (tab ++ [.slice (some ⟨g6, 0, none⟩) 1 1]))
    (ha : R ga = 3 ∨ (w.heap.size ≤ ga ∧ ga ≠ g1 ∧ ga ≠ g6)) (hb : Blk w' p [.slice (some ⟨ga, 0, none⟩) (d.vs.length + 1) cap', .int .i64 d.left, .bool d.off] 56) :
    ∃ R', RefAt w' p R' { d with vs := d.vs ++ [[b]] } (some ⟨ga, 0, none⟩) cap' (tab ++ [.slice (some ⟨g6, 0, none⟩) 1 1]) ∧ (∀ k, k < w.heap.size → R' k = R k) := by
  have hga := ho.lt ga ((blkOf_some _ _ _ _).2 rfl)
  have hne : g1 ≠ ga ∧ g6 ≠ ga := by
    rcases ha with h1 | h1
    · have := h.lt ga (by rw [h1]; decide); omega
    · omega
  have hR : ∀ x, x < w.heap.size → upd (upd (upd R g1 1) g6 1) ga 3 x = R x := fun x hx => by
    by_cases hx4 : x = ga
    · subst hx4
      rw [upd_self]
      rcases ha with h1 | h1
      · exact h1.symm
      · omega
    · rw [upd_ne _ _ hx4, upd_ne _ _ (by omega), upd_ne _ _ (by omega)]
  have hr1 : upd (upd (upd R g1 1) g6 1) ga 3 g1 = 1 := by rw [upd_ne _ _ hne.1, upd_ne _ _ (by omega), upd_self]
  have hr6 : upd (upd (upd R g1 1) g6 1) ga 3 g6 = 1 := by rw [upd_ne _ _ hne.2, upd_self]
  have hp := h.obj.lt
  have hl := h.own.1
  refine ⟨upd (upd (upd R g1 1) g6 1) ga 3, ⟨fun x hx => ?_, by rw [hR p hp]; exact h.me, by rw [List.length_append]; exact hb, by rw [List.length_append]; exact ho, fun x hx => by rw [(blkOf_some _ _ _ _).1 hx]; exact upd_self _ _ _, fun i hi => ?_⟩, hR⟩
  · by_cases hx4 : x = ga
    · omega
    · rw [upd_ne _ _ hx4] at hx
      by_cases hx6 : x = g6
      · omega
      · rw [upd_ne _ _ hx6] at hx
        by_cases hx1 : x = g1
        · omega
        · rw [upd_ne _ _ hx1] at hx
          have := h.lt x hx
          have := hk.size
          omega
  · rw [List.length_append, List.length_singleton] at hi
    by_cases hil : i < d.vs.length
    · have e1 : (tab ++ [Value.slice (some ⟨g6, 0, none⟩) 1 1]).getD i undef = tab.getD i undef := by simp [List.getD, List.getElem?_append, show i < tab.length by omega]
      have e2 : Dk.at_ { d with vs := d.vs ++ [[b]] } i = d.at_ i := by simp [Dk.at_, List.getD, List.getElem?_append, hil]
      rw [e1, e2]
      exact (h.secs i hil).keep hk (fun k h1 e => by omega) hR
    · obtain rfl : i = d.vs.length := by omega
      have e1 : (tab ++ [Value.slice (some ⟨g6, 0, none⟩) 1 1]).getD d.vs.length undef = Value.slice (some ⟨g6, 0, none⟩) 1 1 := by
        rw [show d.vs.length = tab.length by omega]; simp [List.getD]
      have e2 : Dk.at_ { d with vs := d.vs ++ [[b]] } d.vs.length = [b] := by simp [Dk.at_, List.getD, List.getElem?_append]
      rw [e1, e2]
      refine ⟨g6, 0, 1, rfl, by simp, by omega, hr6, hg', fun j hj => ?_⟩
      simp only [List.length_singleton] at hj
      obtain rfl : j = 0 := by omega
      exact ⟨_, hv.cell 0 rfl, g1, 0, c1, rfl, hr, hr1, by omega⟩
def RNewP (w : World) (d : Dk) (e : Ending) (w' : World) : Prop := ∃ p R, e = .returned (.pointer (some ⟨p, 0, none⟩)) ∧ IsRef w' p R d ∧ Keeps Nil w w' ∧ ∀ k, R k ≠ 0 → w.heap.size ≤ k
theorem refNew0 {w : World} {p : Nat} (hp : w.heap.size ≤ p) {w' : World} (hb : Blk w' p [.slice none 0 0, .int .i64 (-1), .bool false] 56) : RefAt w' p (upd (fun _ => 0) p 2) (Dk.new 0) none 0 [] ∧ ∀ k, upd (fun _ => 0) p 2 k ≠ 0 → w.heap.size ≤ k := by
  have hlt := hb.lt
  have hR : ∀ k, upd (fun _ => 0) p 2 k ≠ 0 → k = p := fun k hk => by
    by_cases h : k = p
    · exact h
    · rw [upd_ne _ _ h] at hk; exact (hk rfl).elim
  exact ⟨⟨fun k hk => by rw [hR k hk]; exact hlt, upd_self _ _ _, hb, Own.nil _ _ _, fun k hk => (blkOf_none k hk).elim, fun i hi => absurd hi (by simp [Dk.new])⟩, fun k hk => by rw [hR k hk]; exact hp⟩
set_option maxRecDepth 20000 in
set_option maxHeartbeats 3200000 in
theorem refnew_walk (w : World) (n : Int) :
    Calls Tryd.prog 26 #[.int .i64 n] w (RNewP w (Dk.new (newN n))) := by
  obtain ⟨hN1, hN2, hN3⟩ := newN_le n
  generalize newN n = N at *
  have HN : Hid (min (max n 1) 400 = (N : Int)) := Lib.hid hN3.symm
  clear hN3
  by_cases h1 : n < 1
  · have h1b : n ≤ 0 := by omega
    obtain ⟨w1, g, hg, hb, hw1, hk1⟩ := alloc1 w [.slice none 0 0, .int .i64 (-1), .bool false] 56
    have HB := Lib.hid (And.intro (refNew0 (Nat.le_of_eq hg.symm) hb) hk1)
    have HW := Lib.hid hw1
    have HG := Lib.hid hg
    clear hb hk1 hg hw1
    go_enter Tryd.func26, Tryd.ntmps26
    go_wp2_with fail
    rw [← HG.out, ← HW.out]
    go_loopw [4] (fun x wr => ∃ (j : Nat) (R : Roles), x = .int .i64 j ∧ j ≤ N ∧ Hid (IsRef wr g R (Dk.new j)) ∧ Hid (Keeps Nil w wr) ∧ Hid (∀ k, R k ≠ 0 → w.heap.size ≤ k)) (fun x _ => N - (intOf x).toNat)
    case atStart => exact ⟨0, _, rfl, Nat.zero_le _, Lib.hid HB.out.1.1.is, Lib.hid HB.out.2, Lib.hid HB.out.1.2⟩
    case round =>
      obtain ⟨j, R, rfl, hj, hD, hkj, hf⟩ := hrel
      by_cases hjn : j < N
      · obtain ⟨a, cap, tab, hA⟩ := hD.out
        have c0 := hA.obj.cell 0 rfl
        have hgl := hA.obj.lt
        rw [Dk.new_len] at c0
        have hj0 : (0 : Int) ≤ j := by omega
        have hj1 : (j : Int) < 1 := by have := HN.out; omega
        go_upto_region 5 with fail
        refine wp_region_held_drew (S := fun _ => True) (by kernel_rfl) trivial (fun hHeld => ?_)
        have hkd : Keeps Nil wr wr.drew := (Keeps.refl Nil wr).drew
        replace c0 := hkd.cell c0 (fun h => h)
        have HKD := Lib.hid hkd
        have HA := Lib.hid (hA.keep0 hkd)
        have hKw : Keeps Nil wr.drew wr.drew := Keeps.refl _ _
        clear hkd hA
        generalize wr.drew = v0 at *
        refine takeL (i := 0) (v := _) rfl (by kernel_rfl) (by kernel_rfl) (by kernel_rfl) (fun _ _ _ h => h) (Or.inl ⟨by rfl, by intro w hSw; (try dsimp only at hSw); go_simp; try with_reducible rfl⟩) (by assumption) ?_
        try simp only [Act.put, List.setIfInBounds_toArray, List.set_cons_zero, List.set_cons_succ]
        refine takeL (i := 1) (v := _) rfl (by kernel_rfl) (by kernel_rfl) (by kernel_rfl) (fun _ _ _ h => h) (Or.inl ⟨by rfl, by intro w hSw; (try dsimp only at hSw); go_simp; try with_reducible rfl⟩) (by assumption) ?_
        try simp only [Act.put, List.setIfInBounds_toArray, List.set_cons_zero, List.set_cons_succ]
        refine takeL (i := 2) (v := _) rfl (by kernel_rfl) (by kernel_rfl) (by kernel_rfl) (fun _ _ _ h => h) (Or.inl ⟨by rfl, by intro w hSw; (try dsimp only at hSw); go_simp; try with_reducible rfl⟩) (by assumption) ?_
        try simp only [Act.put, List.setIfInBounds_toArray, List.set_cons_zero, List.set_cons_succ]
        refine takeL (i := 3) (v := _) rfl (by kernel_rfl) (by kernel_rfl) (by kernel_rfl) (fun _ _ _ h => h) (Or.inl ⟨by rfl, by intro w hSw; (try dsimp only at hSw); go_simp; try with_reducible rfl⟩) (by assumption) ?_
        try simp only [Act.put, List.setIfInBounds_toArray, List.set_cons_zero, List.set_cons_succ]
        refine bothL (i := 4) (j := 5) rfl rfl (by kernel_rfl) (fun K hK => ?_) (fun K hK => ?_)
        · skip
          have c0x := hKw.cell c0 (fun h => h)
          go_simp
          clear c0x
          refine (fun hHeld => hK _ _ hHeld ?_) (trivial)
          clear hK
          try simp only [Act.put, List.setIfInBounds_toArray, List.set_cons_zero, List.set_cons_succ]
          refine onlyL (i := 5) rfl (by kernel_rfl) (fun K hK => ?_)
          refine step_make rfl _ _ 25 rfl 5 (.int .u8 0) 1 Tryd.underlying25 Tryd.infoU8z rfl .i64 .i64 128 128 128 128 rfl rfl rfl rfl (by decide) (by decide) (by unfold maxLen; decide) ?_
          intro g1 w2 hg1 hb1 qk
          have hg1v : v0.heap.size ≤ g1 := by have := hKw.size; omega
          clear hg1
          refine (fun hHeld => hK _ _ hHeld ?_) (trivial)
          clear hK
          try simp only [Act.put, List.setIfInBounds_toArray, List.set_cons_zero, List.set_cons_succ]
          replace hKw := hKw.trans qk
          refine onlyL (i := 6) rfl (by kernel_rfl) (fun K hK => ?_)
          refine step_bsK rfl 83 25 1 _ rfl [.slice (some ⟨g1, 0, none⟩) 128 128] Tryd.underlying83 Tryd.bsSls rfl (by decide) (by decide) (by simp [Act.eval]) (by simp [Value.cells]) ?_
          intro g6 w6 hg6 hb6 qk
          have hg6v : v0.heap.size ≤ g6 := by have := hKw.size; omega
          have hg16 : g1 < g6 := by have := hb1.lt; omega
          clear hg6
          refine (fun hHeld => hK _ _ hHeld ?_) (trivial)
          clear hK
          try simp only [Act.put, List.setIfInBounds_toArray, List.set_cons_zero, List.set_cons_succ]
          replace hKw := hKw.trans qk
          replace hb1 := hb1.keep0 qk
          refine onlyL (i := 7) rfl (by kernel_rfl) (fun K hK => ?_)
          refine step_bsK rfl 54 83 1 _ rfl [.slice (some ⟨g6, 0, none⟩) 1 1] Tryd.underlying54 Tryd.bsSls2 rfl (by decide) (by decide) (by simp [Act.eval]) (by simp [Value.cells]) ?_
          intro g7 w3 hg7 hb7 qk
          clear hg7
          refine (fun hHeld => hK _ _ hHeld ?_) (trivial)
          clear hK
          try simp only [Act.put, List.setIfInBounds_toArray, List.set_cons_zero, List.set_cons_succ]
          replace hKw := hKw.trans qk
          replace hb1 := hb1.keep0 qk
          replace hb6 := hb6.keep0 qk
          have hown := HA.out.own.keep0 hKw
          rw [Dk.new_len] at hown
          refine onlyL (i := 8) rfl (by kernel_rfl) (fun K hK => ?_)
          refine step_appendO rfl _ _ 54 rfl 83 1 24 Tryd.underlying54 Tryd.infoSls2 (by omega) a cap j tab rfl hown (some ⟨g7, 0, none⟩) 1 1 [.slice (some ⟨g6, 0, none⟩) 1 1] rfl (Src.one hb7 rfl) (by unfold maxLen; omega) (by omega) ?_
          intro a4 cap4 w4 ho4 qk4 hf4
          obtain ⟨g4, hg4, _, _⟩ := ho4.some (by omega)
          subst hg4
          have hrole : ∀ k, blkOf a k → R k = 3 := HA.out.role
          have hgn : ¬ blkOf a g := fun e => by have h1 := hrole g e; have := HA.out.me; omega
          have hb4 : Blk w4 g [.slice a (Dk.new j).vs.length cap, .int .i64 (-1), .bool false] 56 := (HA.out.obj.keep0 hKw).keep qk4 hgn
          have hcl4 := hb4.cell 0 rfl
          have hfz4 := hb4.frozen 0
          refine (fun hHeld => hK _ _ hHeld ?_) (trivial)
          clear hK
          try simp only [Act.put, List.setIfInBounds_toArray, List.set_cons_zero, List.set_cons_succ]
          refine takeL (i := 9) (v := _) rfl (by kernel_rfl) (by kernel_rfl) (by kernel_rfl) (fun _ _ _ h => h) (Or.inl ⟨by rfl, by intro w hSw; (try dsimp only at hSw); go_simp; try with_reducible rfl⟩) (by assumption) ?_
          try simp only [Act.put, List.setIfInBounds_toArray, List.set_cons_zero, List.set_cons_succ]
          refine takeL (i := 10) (v := _) rfl (by kernel_rfl) (by kernel_rfl) (by kernel_rfl) (fun _ _ _ h => h) (Or.inl ⟨by rfl, by intro w hSw; (try dsimp only at hSw); go_simp; try with_reducible rfl⟩) (by assumption) ?_
          try simp only [Act.put, List.setIfInBounds_toArray, List.set_cons_zero, List.set_cons_succ]
          refine onlyL (i := 11) rfl (by kernel_rfl) (fun K hK => ?_)
          refine step_storeS rfl 54 Tryd.sizeSls3 _ _ rfl g 0 rfl (some ⟨g4, 0, none⟩) (j + 1) cap4 rfl hcl4 hfz4 ?_
          have hz := hb4.set 0 (.slice (some ⟨g4, 0, none⟩) (j + 1) cap4)
          have hks : Keeps (One g) w4 (w4.setCell ⟨g, 0, none⟩ (.slice (some ⟨g4, 0, none⟩) (j + 1) cap4)) := (Keeps.refl _ _).setOne _ _
          generalize w4.setCell ⟨g, 0, none⟩ (.slice (some ⟨g4, 0, none⟩) (j + 1) cap4) = w5 at *
          have hlt1 := hb1.lt
          have hlt6 := hb6.lt
          have hv3 := hKw.size
          have hg4c : R g4 = 3 ∨ g4 = w3.heap.size := (hf4 g4 ((blkOf_some _ _ _ _).2 rfl)).imp (hrole g4) id
          have hgR : R g = 2 := HA.out.me
          have hgv : g < v0.heap.size := HA.out.obj.lt
          have hna : ∀ x, v0.heap.size ≤ x → ¬ blkOf a x := fun x hx e => by have := HA.out.own.lt x e; omega
          have hmore := HA.out.more (w' := w5) (g1 := g1) (c1 := 128) (g6 := g6) (b := zsec) (ga := g4) (cap' := cap4) (by omega) (by omega) (by omega) (by have := qk4.size; have := hks.size; omega)
            (((byteV_zsec ▸ hb1 : Blk w3 g1 (byteV zsec) 5).keep qk4 (hna g1 hg1v)).keep hks (fun e => by have : g1 = g := e; omega) |>.row8 zsec_bytes zsec_len (by omega))
            ((hb6.keep qk4 (hna g6 hg6v)).keep hks (fun e => by have : g6 = g := e; omega))
            ((hKw.nil.step qk4 (fun x hx => .inl (.inr (hrole x hx)))).step hks (fun x hx => .inl (.inl (by rw [show x = g from hx]; exact hgR))))
            (by rw [Dk.new_len]; exact ho4.keep hks (fun x hx e => by
                  have h1 := (blkOf_some _ _ _ _).1 hx
                  have h2 : x = g := e
                  rcases hg4c with h3 | h3
                  · rw [← h1, h2] at h3; omega
                  · omega))
            (hg4c.imp id (fun h => by omega))
            (by rw [Dk.new_len]; exact hz)
          obtain ⟨R', hmA, hRR⟩ := hmore
          refine (fun hHeld => hK _ _ hHeld ?_) (trivial)
          clear hK
          try simp only [Act.put, List.setIfInBounds_toArray, List.set_cons_zero, List.set_cons_succ]
          refine wpAnyH_done (by kernel_rfl) ?_ _
          have HX : Hid (IsRef w5 g R' (Dk.new (j + 1)) ∧ Keeps Nil w w5 ∧ ∀ k, R' k ≠ 0 → w.heap.size ≤ k) := by
            refine Lib.hid ⟨by rw [Dk.new_succ]; exact hmA.is, ?_, fun k hk => ?_⟩
            · refine (((hkj.out.trans HKD.out).trans hKw).step qk4 (fun x hx => .inr (hf.out x (by rw [hrole x hx]; decide)))).step hks (fun x hx => .inr (hf.out x (by rw [show x = g from hx, hgR]; decide)))
            · rcases Nat.lt_or_ge k v0.heap.size with h | h
              · rw [hRR k h] at hk; exact hf.out k hk
              · have := hkj.out.size; have := HKD.out.size; omega
          clear hmA hRR hz hks hcl4 hfz4 hb4 ho4 qk4 hf4 hown hb6 hb7 hb1 c0 hg1v hg6v hg16 hrole hgn hg4c hlt1 hlt6 hv3 hgR hgv hgl hKw hna
          go_wp2_with fail
          exact ⟨⟨j + 1, R', by go_num, by omega, Lib.hid HX.out.1, Lib.hid HX.out.2.1, Lib.hid HX.out.2.2⟩, by first | (simp [intOf]; done) | (simp [intOf]; omega)⟩
        · skip
          refine step_make rfl _ _ 25 rfl 5 (.int .u8 0) 1 Tryd.underlying25 Tryd.infoU8z rfl .i64 .i64 128 128 128 128 rfl rfl rfl rfl (by decide) (by decide) (by unfold maxLen; decide) ?_
          intro g1 w2 hg1 hb1 qk
          have hg1v : v0.heap.size ≤ g1 := by have := hKw.size; omega
          clear hg1
          refine (fun hHeld => hK _ _ hHeld ?_) (trivial)
          clear hK
          try simp only [Act.put, List.setIfInBounds_toArray, List.set_cons_zero, List.set_cons_succ]
          replace hKw := hKw.trans qk
          refine bothL (i := 4) (j := 6) rfl rfl (by kernel_rfl) (fun K hK => ?_) (fun K hK => ?_)
          · skip
            have c0x := hKw.cell c0 (fun h => h)
            go_simp
            clear c0x
            refine (fun hHeld => hK _ _ hHeld ?_) (trivial)
            clear hK
            try simp only [Act.put, List.setIfInBounds_toArray, List.set_cons_zero, List.set_cons_succ]
            refine onlyL (i := 6) rfl (by kernel_rfl) (fun K hK => ?_)
            refine step_bsK rfl 83 25 1 _ rfl [.slice (some ⟨g1, 0, none⟩) 128 128] Tryd.underlying83 Tryd.bsSls rfl (by decide) (by decide) (by simp [Act.eval]) (by simp [Value.cells]) ?_
            intro g6 w6 hg6 hb6 qk
            have hg6v : v0.heap.size ≤ g6 := by have := hKw.size; omega
            have hg16 : g1 < g6 := by have := hb1.lt; omega
            clear hg6
            refine (fun hHeld => hK _ _ hHeld ?_) (trivial)
            clear hK
            try simp only [Act.put, List.setIfInBounds_toArray, List.set_cons_zero, List.set_cons_succ]
            replace hKw := hKw.trans qk
            replace hb1 := hb1.keep0 qk
            refine onlyL (i := 7) rfl (by kernel_rfl) (fun K hK => ?_)
            refine step_bsK rfl 54 83 1 _ rfl [.slice (some ⟨g6, 0, none⟩) 1 1] Tryd.underlying54 Tryd.bsSls2 rfl (by decide) (by decide) (by simp [Act.eval]) (by simp [Value.cells]) ?_
            intro g7 w3 hg7 hb7 qk
            clear hg7
            refine (fun hHeld => hK _ _ hHeld ?_) (trivial)
            clear hK
            try simp only [Act.put, List.setIfInBounds_toArray, List.set_cons_zero, List.set_cons_succ]
            replace hKw := hKw.trans qk
            replace hb1 := hb1.keep0 qk
            replace hb6 := hb6.keep0 qk
            have hown := HA.out.own.keep0 hKw
            rw [Dk.new_len] at hown
            refine onlyL (i := 8) rfl (by kernel_rfl) (fun K hK => ?_)
            refine step_appendO rfl _ _ 54 rfl 83 1 24 Tryd.underlying54 Tryd.infoSls2 (by omega) a cap j tab rfl hown (some ⟨g7, 0, none⟩) 1 1 [.slice (some ⟨g6, 0, none⟩) 1 1] rfl (Src.one hb7 rfl) (by unfold maxLen; omega) (by omega) ?_
            intro a4 cap4 w4 ho4 qk4 hf4
            obtain ⟨g4, hg4, _, _⟩ := ho4.some (by omega)
            subst hg4
            have hrole : ∀ k, blkOf a k → R k = 3 := HA.out.role
            have hgn : ¬ blkOf a g := fun e => by have h1 := hrole g e; have := HA.out.me; omega
            have hb4 : Blk w4 g [.slice a (Dk.new j).vs.length cap, .int .i64 (-1), .bool false] 56 := (HA.out.obj.keep0 hKw).keep qk4 hgn
            have hcl4 := hb4.cell 0 rfl
            have hfz4 := hb4.frozen 0
            refine (fun hHeld => hK _ _ hHeld ?_) (trivial)
            clear hK
            try simp only [Act.put, List.setIfInBounds_toArray, List.set_cons_zero, List.set_cons_succ]
            refine takeL (i := 9) (v := _) rfl (by kernel_rfl) (by kernel_rfl) (by kernel_rfl) (fun _ _ _ h => h) (Or.inl ⟨by rfl, by intro w hSw; (try dsimp only at hSw); go_simp; try with_reducible rfl⟩) (by assumption) ?_
            try simp only [Act.put, List.setIfInBounds_toArray, List.set_cons_zero, List.set_cons_succ]
            refine takeL (i := 10) (v := _) rfl (by kernel_rfl) (by kernel_rfl) (by kernel_rfl) (fun _ _ _ h => h) (Or.inl ⟨by rfl, by intro w hSw; (try dsimp only at hSw); go_simp; try with_reducible rfl⟩) (by assumption) ?_
            try simp only [Act.put, List.setIfInBounds_toArray, List.set_cons_zero, List.set_cons_succ]
            refine onlyL (i := 11) rfl (by kernel_rfl) (fun K hK => ?_)
            refine step_storeS rfl 54 Tryd.sizeSls3 _ _ rfl g 0 rfl (some ⟨g4, 0, none⟩) (j + 1) cap4 rfl hcl4 hfz4 ?_
            have hz := hb4.set 0 (.slice (some ⟨g4, 0, none⟩) (j + 1) cap4)
            have hks : Keeps (One g) w4 (w4.setCell ⟨g, 0, none⟩ (.slice (some ⟨g4, 0, none⟩) (j + 1) cap4)) := (Keeps.refl _ _).setOne _ _
            generalize w4.setCell ⟨g, 0, none⟩ (.slice (some ⟨g4, 0, none⟩) (j + 1) cap4) = w5 at *
            have hlt1 := hb1.lt
            have hlt6 := hb6.lt
            have hv3 := hKw.size
            have hg4c : R g4 = 3 ∨ g4 = w3.heap.size := (hf4 g4 ((blkOf_some _ _ _ _).2 rfl)).imp (hrole g4) id
            have hgR : R g = 2 := HA.out.me
            have hgv : g < v0.heap.size := HA.out.obj.lt
            have hna : ∀ x, v0.heap.size ≤ x → ¬ blkOf a x := fun x hx e => by have := HA.out.own.lt x e; omega
            have hmore := HA.out.more (w' := w5) (g1 := g1) (c1 := 128) (g6 := g6) (b := zsec) (ga := g4) (cap' := cap4) (by omega) (by omega) (by omega) (by have := qk4.size; have := hks.size; omega)
              (((byteV_zsec ▸ hb1 : Blk w3 g1 (byteV zsec) 5).keep qk4 (hna g1 hg1v)).keep hks (fun e => by have : g1 = g := e; omega) |>.row8 zsec_bytes zsec_len (by omega))
              ((hb6.keep qk4 (hna g6 hg6v)).keep hks (fun e => by have : g6 = g := e; omega))
              ((hKw.nil.step qk4 (fun x hx => .inl (.inr (hrole x hx)))).step hks (fun x hx => .inl (.inl (by rw [show x = g from hx]; exact hgR))))
              (by rw [Dk.new_len]; exact ho4.keep hks (fun x hx e => by
                    have h1 := (blkOf_some _ _ _ _).1 hx
                    have h2 : x = g := e
                    rcases hg4c with h3 | h3
                    · rw [← h1, h2] at h3; omega
                    · omega))
              (hg4c.imp id (fun h => by omega))
              (by rw [Dk.new_len]; exact hz)
            obtain ⟨R', hmA, hRR⟩ := hmore
            refine (fun hHeld => hK _ _ hHeld ?_) (trivial)
            clear hK
            try simp only [Act.put, List.setIfInBounds_toArray, List.set_cons_zero, List.set_cons_succ]
            refine wpAnyH_done (by kernel_rfl) ?_ _
            have HX : Hid (IsRef w5 g R' (Dk.new (j + 1)) ∧ Keeps Nil w w5 ∧ ∀ k, R' k ≠ 0 → w.heap.size ≤ k) := by
              refine Lib.hid ⟨by rw [Dk.new_succ]; exact hmA.is, ?_, fun k hk => ?_⟩
              · refine (((hkj.out.trans HKD.out).trans hKw).step qk4 (fun x hx => .inr (hf.out x (by rw [hrole x hx]; decide)))).step hks (fun x hx => .inr (hf.out x (by rw [show x = g from hx, hgR]; decide)))
              · rcases Nat.lt_or_ge k v0.heap.size with h | h
                · rw [hRR k h] at hk; exact hf.out k hk
                · have := hkj.out.size; have := HKD.out.size; omega
            clear hmA hRR hz hks hcl4 hfz4 hb4 ho4 qk4 hf4 hown hb6 hb7 hb1 c0 hg1v hg6v hg16 hrole hgn hg4c hlt1 hlt6 hv3 hgR hgv hgl hKw hna
            go_wp2_with fail
            exact ⟨⟨j + 1, R', by go_num, by omega, Lib.hid HX.out.1, Lib.hid HX.out.2.1, Lib.hid HX.out.2.2⟩, by first | (simp [intOf]; done) | (simp [intOf]; omega)⟩
          · skip
            refine step_bsK rfl 83 25 1 _ rfl [.slice (some ⟨g1, 0, none⟩) 128 128] Tryd.underlying83 Tryd.bsSls rfl (by decide) (by decide) (by simp [Act.eval]) (by simp [Value.cells]) ?_
            intro g6 w6 hg6 hb6 qk
            have hg6v : v0.heap.size ≤ g6 := by have := hKw.size; omega
            have hg16 : g1 < g6 := by have := hb1.lt; omega
            clear hg6
            refine (fun hHeld => hK _ _ hHeld ?_) (trivial)
            clear hK
            try simp only [Act.put, List.setIfInBounds_toArray, List.set_cons_zero, List.set_cons_succ]
            replace hKw := hKw.trans qk
            replace hb1 := hb1.keep0 qk
            refine bothL (i := 4) (j := 7) rfl rfl (by kernel_rfl) (fun K hK => ?_) (fun K hK => ?_)
            · skip
              have c0x := hKw.cell c0 (fun h => h)
              go_simp
              clear c0x
              refine (fun hHeld => hK _ _ hHeld ?_) (trivial)
              clear hK
              try simp only [Act.put, List.setIfInBounds_toArray, List.set_cons_zero, List.set_cons_succ]
              refine onlyL (i := 7) rfl (by kernel_rfl) (fun K hK => ?_)
              refine step_bsK rfl 54 83 1 _ rfl [.slice (some ⟨g6, 0, none⟩) 1 1] Tryd.underlying54 Tryd.bsSls2 rfl (by decide) (by decide) (by simp [Act.eval]) (by simp [Value.cells]) ?_
              intro g7 w3 hg7 hb7 qk
              clear hg7
              refine (fun hHeld => hK _ _ hHeld ?_) (trivial)
              clear hK
              try simp only [Act.put, List.setIfInBounds_toArray, List.set_cons_zero, List.set_cons_succ]
              replace hKw := hKw.trans qk
              replace hb1 := hb1.keep0 qk
              replace hb6 := hb6.keep0 qk
              have hown := HA.out.own.keep0 hKw
              rw [Dk.new_len] at hown
              refine onlyL (i := 8) rfl (by kernel_rfl) (fun K hK => ?_)
              refine step_appendO rfl _ _ 54 rfl 83 1 24 Tryd.underlying54 Tryd.infoSls2 (by omega) a cap j tab rfl hown (some ⟨g7, 0, none⟩) 1 1 [.slice (some ⟨g6, 0, none⟩) 1 1] rfl (Src.one hb7 rfl) (by unfold maxLen; omega) (by omega) ?_
              intro a4 cap4 w4 ho4 qk4 hf4
              obtain ⟨g4, hg4, _, _⟩ := ho4.some (by omega)
              subst hg4
              have hrole : ∀ k, blkOf a k → R k = 3 := HA.out.role
              have hgn : ¬ blkOf a g := fun e => by have h1 := hrole g e; have := HA.out.me; omega
              have hb4 : Blk w4 g [.slice a (Dk.new j).vs.length cap, .int .i64 (-1), .bool false] 56 := (HA.out.obj.keep0 hKw).keep qk4 hgn
              have hcl4 := hb4.cell 0 rfl
              have hfz4 := hb4.frozen 0
              refine (fun hHeld => hK _ _ hHeld ?_) (trivial)
              clear hK
              try simp only [Act.put, List.setIfInBounds_toArray, List.set_cons_zero, List.set_cons_succ]
              refine takeL (i := 9) (v := _) rfl (by kernel_rfl) (by kernel_rfl) (by kernel_rfl) (fun _ _ _ h => h) (Or.inl ⟨by rfl, by intro w hSw; (try dsimp only at hSw); go_simp; try with_reducible rfl⟩) (by assumption) ?_
              try simp only [Act.put, List.setIfInBounds_toArray, List.set_cons_zero, List.set_cons_succ]
              refine takeL (i := 10) (v := _) rfl (by kernel_rfl) (by kernel_rfl) (by kernel_rfl) (fun _ _ _ h => h) (Or.inl ⟨by rfl, by intro w hSw; (try dsimp only at hSw); go_simp; try with_reducible rfl⟩) (by assumption) ?_
              try simp only [Act.put, List.setIfInBounds_toArray, List.set_cons_zero, List.set_cons_succ]
              refine onlyL (i := 11) rfl (by kernel_rfl) (fun K hK => ?_)
              refine step_storeS rfl 54 Tryd.sizeSls3 _ _ rfl g 0 rfl (some ⟨g4, 0, none⟩) (j + 1) cap4 rfl hcl4 hfz4 ?_
              have hz := hb4.set 0 (.slice (some ⟨g4, 0, none⟩) (j + 1) cap4)
              have hks : Keeps (One g) w4 (w4.setCell ⟨g, 0, none⟩ (.slice (some ⟨g4, 0, none⟩) (j + 1) cap4)) := (Keeps.refl _ _).setOne _ _
              generalize w4.setCell ⟨g, 0, none⟩ (.slice (some ⟨g4, 0, none⟩) (j + 1) cap4) = w5 at *
              have hlt1 := hb1.lt
              have hlt6 := hb6.lt
              have hv3 := hKw.size
              have hg4c : R g4 = 3 ∨ g4 = w3.heap.size := (hf4 g4 ((blkOf_some _ _ _ _).2 rfl)).imp (hrole g4) id
              have hgR : R g = 2 := HA.out.me
              have hgv : g < v0.heap.size := HA.out.obj.lt
              have hna : ∀ x, v0.heap.size ≤ x → ¬ blkOf a x := fun x hx e => by have := HA.out.own.lt x e; omega
              have hmore := HA.out.more (w' := w5) (g1 := g1) (c1 := 128) (g6 := g6) (b := zsec) (ga := g4) (cap' := cap4) (by omega) (by omega) (by omega) (by have := qk4.size; have := hks.size; omega)
                (((byteV_zsec ▸ hb1 : Blk w3 g1 (byteV zsec) 5).keep qk4 (hna g1 hg1v)).keep hks (fun e => by have : g1 = g := e; omega) |>.row8 zsec_bytes zsec_len (by omega))
                ((hb6.keep qk4 (hna g6 hg6v)).keep hks (fun e => by have : g6 = g := e; omega))
                ((hKw.nil.step qk4 (fun x hx => .inl (.inr (hrole x hx)))).step hks (fun x hx => .inl (.inl (by rw [show x = g from hx]; exact hgR))))
                (by rw [Dk.new_len]; exact ho4.keep hks (fun x hx e => by
                      have h1 := (blkOf_some _ _ _ _).1 hx
                      have h2 : x = g := e
                      rcases hg4c with h3 | h3
                      · rw [← h1, h2] at h3; omega
                      · omega))
                (hg4c.imp id (fun h => by omega))
                (by rw [Dk.new_len]; exact hz)
              obtain ⟨R', hmA, hRR⟩ := hmore
              refine (fun hHeld => hK _ _ hHeld ?_) (trivial)
              clear hK
              try simp only [Act.put, List.setIfInBounds_toArray, List.set_cons_zero, List.set_cons_succ]
              refine wpAnyH_done (by kernel_rfl) ?_ _
              have HX : Hid (IsRef w5 g R' (Dk.new (j + 1)) ∧ Keeps Nil w w5 ∧ ∀ k, R' k ≠ 0 → w.heap.size ≤ k) := by
                refine Lib.hid ⟨by rw [Dk.new_succ]; exact hmA.is, ?_, fun k hk => ?_⟩
                · refine (((hkj.out.trans HKD.out).trans hKw).step qk4 (fun x hx => .inr (hf.out x (by rw [hrole x hx]; decide)))).step hks (fun x hx => .inr (hf.out x (by rw [show x = g from hx, hgR]; decide)))
                · rcases Nat.lt_or_ge k v0.heap.size with h | h
                  · rw [hRR k h] at hk; exact hf.out k hk
                  · have := hkj.out.size; have := HKD.out.size; omega
              clear hmA hRR hz hks hcl4 hfz4 hb4 ho4 qk4 hf4 hown hb6 hb7 hb1 c0 hg1v hg6v hg16 hrole hgn hg4c hlt1 hlt6 hv3 hgR hgv hgl hKw hna
              go_wp2_with fail
              exact ⟨⟨j + 1, R', by go_num, by omega, Lib.hid HX.out.1, Lib.hid HX.out.2.1, Lib.hid HX.out.2.2⟩, by first | (simp [intOf]; done) | (simp [intOf]; omega)⟩
            · skip
              refine step_bsK rfl 54 83 1 _ rfl [.slice (some ⟨g6, 0, none⟩) 1 1] Tryd.underlying54 Tryd.bsSls2 rfl (by decide) (by decide) (by simp [Act.eval]) (by simp [Value.cells]) ?_
              intro g7 w3 hg7 hb7 qk
              clear hg7
              refine (fun hHeld => hK _ _ hHeld ?_) (trivial)
              clear hK
              try simp only [Act.put, List.setIfInBounds_toArray, List.set_cons_zero, List.set_cons_succ]
              replace hKw := hKw.trans qk
              replace hb1 := hb1.keep0 qk
              replace hb6 := hb6.keep0 qk
              refine onlyL (i := 4) rfl (by kernel_rfl) (fun K hK => ?_)
              have c0x := hKw.cell c0 (fun h => h)
              go_simp
              clear c0x
              refine (fun hHeld => hK _ _ hHeld ?_) (trivial)
              clear hK
              try simp only [Act.put, List.setIfInBounds_toArray, List.set_cons_zero, List.set_cons_succ]
              have hown := HA.out.own.keep0 hKw
              rw [Dk.new_len] at hown
              refine onlyL (i := 8) rfl (by kernel_rfl) (fun K hK => ?_)
              refine step_appendO rfl _ _ 54 rfl 83 1 24 Tryd.underlying54 Tryd.infoSls2 (by omega) a cap j tab rfl hown (some ⟨g7, 0, none⟩) 1 1 [.slice (some ⟨g6, 0, none⟩) 1 1] rfl (Src.one hb7 rfl) (by unfold maxLen; omega) (by omega) ?_
              intro a4 cap4 w4 ho4 qk4 hf4
              obtain ⟨g4, hg4, _, _⟩ := ho4.some (by omega)
              subst hg4
              have hrole : ∀ k, blkOf a k → R k = 3 := HA.out.role
              have hgn : ¬ blkOf a g := fun e => by have h1 := hrole g e; have := HA.out.me; omega
              have hb4 : Blk w4 g [.slice a (Dk.new j).vs.length cap, .int .i64 (-1), .bool false] 56 := (HA.out.obj.keep0 hKw).keep qk4 hgn
              have hcl4 := hb4.cell 0 rfl
              have hfz4 := hb4.frozen 0
              refine (fun hHeld => hK _ _ hHeld ?_) (trivial)
              clear hK
              try simp only [Act.put, List.setIfInBounds_toArray, List.set_cons_zero, List.set_cons_succ]
              refine takeL (i := 9) (v := _) rfl (by kernel_rfl) (by kernel_rfl) (by kernel_rfl) (fun _ _ _ h => h) (Or.inl ⟨by rfl, by intro w hSw; (try dsimp only at hSw); go_simp; try with_reducible rfl⟩) (by assumption) ?_
              try simp only [Act.put, List.setIfInBounds_toArray, List.set_cons_zero, List.set_cons_succ]
              refine takeL (i := 10) (v := _) rfl (by kernel_rfl) (by kernel_rfl) (by kernel_rfl) (fun _ _ _ h => h) (Or.inl ⟨by rfl, by intro w hSw; (try dsimp only at hSw); go_simp; try with_reducible rfl⟩) (by assumption) ?_
              try simp only [Act.put, List.setIfInBounds_toArray, List.set_cons_zero, List.set_cons_succ]
              refine onlyL (i := 11) rfl (by kernel_rfl) (fun K hK => ?_)
              refine step_storeS rfl 54 Tryd.sizeSls3 _ _ rfl g 0 rfl (some ⟨g4, 0, none⟩) (j + 1) cap4 rfl hcl4 hfz4 ?_
              have hz := hb4.set 0 (.slice (some ⟨g4, 0, none⟩) (j + 1) cap4)
              have hks : Keeps (One g) w4 (w4.setCell ⟨g, 0, none⟩ (.slice (some ⟨g4, 0, none⟩) (j + 1) cap4)) := (Keeps.refl _ _).setOne _ _
              generalize w4.setCell ⟨g, 0, none⟩ (.slice (some ⟨g4, 0, none⟩) (j + 1) cap4) = w5 at *
              have hlt1 := hb1.lt
              have hlt6 := hb6.lt
              have hv3 := hKw.size
              have hg4c : R g4 = 3 ∨ g4 = w3.heap.size := (hf4 g4 ((blkOf_some _ _ _ _).2 rfl)).imp (hrole g4) id
              have hgR : R g = 2 := HA.out.me
              have hgv : g < v0.heap.size := HA.out.obj.lt
              have hna : ∀ x, v0.heap.size ≤ x → ¬ blkOf a x := fun x hx e => by have := HA.out.own.lt x e; omega
              have hmore := HA.out.more (w' := w5) (g1 := g1) (c1 := 128) (g6 := g6) (b := zsec) (ga := g4) (cap' := cap4) (by omega) (by omega) (by omega) (by have := qk4.size; have := hks.size; omega)
                (((byteV_zsec ▸ hb1 : Blk w3 g1 (byteV zsec) 5).keep qk4 (hna g1 hg1v)).keep hks (fun e => by have : g1 = g := e; omega) |>.row8 zsec_bytes zsec_len (by omega))
                ((hb6.keep qk4 (hna g6 hg6v)).keep hks (fun e => by have : g6 = g := e; omega))
                ((hKw.nil.step qk4 (fun x hx => .inl (.inr (hrole x hx)))).step hks (fun x hx => .inl (.inl (by rw [show x = g from hx]; exact hgR))))
                (by rw [Dk.new_len]; exact ho4.keep hks (fun x hx e => by
                      have h1 := (blkOf_some _ _ _ _).1 hx
                      have h2 : x = g := e
                      rcases hg4c with h3 | h3
                      · rw [← h1, h2] at h3; omega
                      · omega))
                (hg4c.imp id (fun h => by omega))
                (by rw [Dk.new_len]; exact hz)
              obtain ⟨R', hmA, hRR⟩ := hmore
              refine (fun hHeld => hK _ _ hHeld ?_) (trivial)
              clear hK
              try simp only [Act.put, List.setIfInBounds_toArray, List.set_cons_zero, List.set_cons_succ]
              refine wpAnyH_done (by kernel_rfl) ?_ _
              have HX : Hid (IsRef w5 g R' (Dk.new (j + 1)) ∧ Keeps Nil w w5 ∧ ∀ k, R' k ≠ 0 → w.heap.size ≤ k) := by
                refine Lib.hid ⟨by rw [Dk.new_succ]; exact hmA.is, ?_, fun k hk => ?_⟩
                · refine (((hkj.out.trans HKD.out).trans hKw).step qk4 (fun x hx => .inr (hf.out x (by rw [hrole x hx]; decide)))).step hks (fun x hx => .inr (hf.out x (by rw [show x = g from hx, hgR]; decide)))
                · rcases Nat.lt_or_ge k v0.heap.size with h | h
                  · rw [hRR k h] at hk; exact hf.out k hk
                  · have := hkj.out.size; have := HKD.out.size; omega
              clear hmA hRR hz hks hcl4 hfz4 hb4 ho4 qk4 hf4 hown hb6 hb7 hb1 c0 hg1v hg6v hg16 hrole hgn hg4c hlt1 hlt6 hv3 hgR hgv hgl hKw hna
              go_wp2_with fail
              exact ⟨⟨j + 1, R', by go_num, by omega, Lib.hid HX.out.1, Lib.hid HX.out.2.1, Lib.hid HX.out.2.2⟩, by first | (simp [intOf]; done) | (simp [intOf]; omega)⟩
      · have hj1 : ¬ ((j : Int) < 1) := by have := HN.out; omega
        obtain rfl : j = N := by omega
        have HF := Lib.hid (And.intro hD.out (And.intro hkj.out hf.out))
        go_wp2_with fail
        go_ret
        exact ⟨g, R, rfl, HF.out.1, HF.out.2.1, HF.out.2.2⟩
  · have h1c : 1 ≤ n := by omega
    by_cases h2 : 400 < n
    · skip
      obtain ⟨w1, g, hg, hb, hw1, hk1⟩ := alloc1 w [.slice none 0 0, .int .i64 (-1), .bool false] 56
      have HB := Lib.hid (And.intro (refNew0 (Nat.le_of_eq hg.symm) hb) hk1)
      have HW := Lib.hid hw1
      have HG := Lib.hid hg
      clear hb hk1 hg hw1
      go_enter Tryd.func26, Tryd.ntmps26
      go_wp2_with fail
      rw [← HG.out, ← HW.out]
      go_loopw [4] (fun x wr => ∃ (j : Nat) (R : Roles), x = .int .i64 j ∧ j ≤ N ∧ Hid (IsRef wr g R (Dk.new j)) ∧ Hid (Keeps Nil w wr) ∧ Hid (∀ k, R k ≠ 0 → w.heap.size ≤ k)) (fun x _ => N - (intOf x).toNat)
      case atStart => exact ⟨0, _, rfl, Nat.zero_le _, Lib.hid HB.out.1.1.is, Lib.hid HB.out.2, Lib.hid HB.out.1.2⟩
      case round =>
        obtain ⟨j, R, rfl, hj, hD, hkj, hf⟩ := hrel
        by_cases hjn : j < N
        · obtain ⟨a, cap, tab, hA⟩ := hD.out
          have c0 := hA.obj.cell 0 rfl
          have hgl := hA.obj.lt
          rw [Dk.new_len] at c0
          have hj0 : (0 : Int) ≤ j := by omega
          have hj1 : (j : Int) < 400 := by have := HN.out; omega
          go_upto_region 5 with fail
          refine wp_region_held_drew (S := fun _ => True) (by kernel_rfl) trivial (fun hHeld => ?_)
          have hkd : Keeps Nil wr wr.drew := (Keeps.refl Nil wr).drew
          replace c0 := hkd.cell c0 (fun h => h)
          have HKD := Lib.hid hkd
          have HA := Lib.hid (hA.keep0 hkd)
          have hKw : Keeps Nil wr.drew wr.drew := Keeps.refl _ _
          clear hkd hA
          generalize wr.drew = v0 at *
          refine takeL (i := 0) (v := _) rfl (by kernel_rfl) (by kernel_rfl) (by kernel_rfl) (fun _ _ _ h => h) (Or.inl ⟨by rfl, by intro w hSw; (try dsimp only at hSw); go_simp; try with_reducible rfl⟩) (by assumption) ?_
          try simp only [Act.put, List.setIfInBounds_toArray, List.set_cons_zero, List.set_cons_succ]
          refine takeL (i := 1) (v := _) rfl (by kernel_rfl) (by kernel_rfl) (by kernel_rfl) (fun _ _ _ h => h) (Or.inl ⟨by rfl, by intro w hSw; (try dsimp only at hSw); go_simp; try with_reducible rfl⟩) (by assumption) ?_
          try simp only [Act.put, List.setIfInBounds_toArray, List.set_cons_zero, List.set_cons_succ]
          refine takeL (i := 2) (v := _) rfl (by kernel_rfl) (by kernel_rfl) (by kernel_rfl) (fun _ _ _ h => h) (Or.inl ⟨by rfl, by intro w hSw; (try dsimp only at hSw); go_simp; try with_reducible rfl⟩) (by assumption) ?_
          try simp only [Act.put, List.setIfInBounds_toArray, List.set_cons_zero, List.set_cons_succ]
          refine takeL (i := 3) (v := _) rfl (by kernel_rfl) (by kernel_rfl) (by kernel_rfl) (fun _ _ _ h => h) (Or.inl ⟨by rfl, by intro w hSw; (try dsimp only at hSw); go_simp; try with_reducible rfl⟩) (by assumption) ?_
          try simp only [Act.put, List.setIfInBounds_toArray, List.set_cons_zero, List.set_cons_succ]
          refine bothL (i := 4) (j := 5) rfl rfl (by kernel_rfl) (fun K hK => ?_) (fun K hK => ?_)
          · skip
            have c0x := hKw.cell c0 (fun h => h)
            go_simp
            clear c0x
            refine (fun hHeld => hK _ _ hHeld ?_) (trivial)
            clear hK
            try simp only [Act.put, List.setIfInBounds_toArray, List.set_cons_zero, List.set_cons_succ]
            refine onlyL (i := 5) rfl (by kernel_rfl) (fun K hK => ?_)
            refine step_make rfl _ _ 25 rfl 5 (.int .u8 0) 1 Tryd.underlying25 Tryd.infoU8z rfl .i64 .i64 128 128 128 128 rfl rfl rfl rfl (by decide) (by decide) (by unfold maxLen; decide) ?_
            intro g1 w2 hg1 hb1 qk
            have hg1v : v0.heap.size ≤ g1 := by have := hKw.size; omega
            clear hg1
            refine (fun hHeld => hK _ _ hHeld ?_) (trivial)
            clear hK
            try simp only [Act.put, List.setIfInBounds_toArray, List.set_cons_zero, List.set_cons_succ]
            replace hKw := hKw.trans qk
            refine onlyL (i := 6) rfl (by kernel_rfl) (fun K hK => ?_)
            refine step_bsK rfl 83 25 1 _ rfl [.slice (some ⟨g1, 0, none⟩) 128 128] Tryd.underlying83 Tryd.bsSls rfl (by decide) (by decide) (by simp [Act.eval]) (by simp [Value.cells]) ?_
            intro g6 w6 hg6 hb6 qk
            have hg6v : v0.heap.size ≤ g6 := by have := hKw.size; omega
            have hg16 : g1 < g6 := by have := hb1.lt; omega
            clear hg6
            refine (fun hHeld => hK _ _ hHeld ?_) (trivial)
            clear hK
            try simp only [Act.put, List.setIfInBounds_toArray, List.set_cons_zero, List.set_cons_succ]
            replace hKw := hKw.trans qk
            replace hb1 := hb1.keep0 qk
            refine onlyL (i := 7) rfl (by kernel_rfl) (fun K hK => ?_)
            refine step_bsK rfl 54 83 1 _ rfl [.slice (some ⟨g6, 0, none⟩) 1 1] Tryd.underlying54 Tryd.bsSls2 rfl (by decide) (by decide) (by simp [Act.eval]) (by simp [Value.cells]) ?_
            intro g7 w3 hg7 hb7 qk
            clear hg7
            refine (fun hHeld => hK _ _ hHeld ?_) (trivial)
            clear hK
            try simp only [Act.put, List.setIfInBounds_toArray, List.set_cons_zero, List.set_cons_succ]
            replace hKw := hKw.trans qk
            replace hb1 := hb1.keep0 qk
            replace hb6 := hb6.keep0 qk
            have hown := HA.out.own.keep0 hKw
            rw [Dk.new_len] at hown
            refine onlyL (i := 8) rfl (by kernel_rfl) (fun K hK => ?_)
            refine step_appendO rfl _ _ 54 rfl 83 1 24 Tryd.underlying54 Tryd.infoSls2 (by omega) a cap j tab rfl hown (some ⟨g7, 0, none⟩) 1 1 [.slice (some ⟨g6, 0, none⟩) 1 1] rfl (Src.one hb7 rfl) (by unfold maxLen; omega) (by omega) ?_
            intro a4 cap4 w4 ho4 qk4 hf4
            obtain ⟨g4, hg4, _, _⟩ := ho4.some (by omega)
            subst hg4
            have hrole : ∀ k, blkOf a k → R k = 3 := HA.out.role
            have hgn : ¬ blkOf a g := fun e => by have h1 := hrole g e; have := HA.out.me; omega
            have hb4 : Blk w4 g [.slice a (Dk.new j).vs.length cap, .int .i64 (-1), .bool false] 56 := (HA.out.obj.keep0 hKw).keep qk4 hgn
            have hcl4 := hb4.cell 0 rfl
            have hfz4 := hb4.frozen 0
            refine (fun hHeld => hK _ _ hHeld ?_) (trivial)
            clear hK
            try simp only [Act.put, List.setIfInBounds_toArray, List.set_cons_zero, List.set_cons_succ]
            refine takeL (i := 9) (v := _) rfl (by kernel_rfl) (by kernel_rfl) (by kernel_rfl) (fun _ _ _ h => h) (Or.inl ⟨by rfl, by intro w hSw; (try dsimp only at hSw); go_simp; try with_reducible rfl⟩) (by assumption) ?_
            try simp only [Act.put, List.setIfInBounds_toArray, List.set_cons_zero, List.set_cons_succ]
            refine takeL (i := 10) (v := _) rfl (by kernel_rfl) (by kernel_rfl) (by kernel_rfl) (fun _ _ _ h => h) (Or.inl ⟨by rfl, by intro w hSw; (try dsimp only at hSw); go_simp; try with_reducible rfl⟩) (by assumption) ?_
            try simp only [Act.put, List.setIfInBounds_toArray, List.set_cons_zero, List.set_cons_succ]
            refine onlyL (i := 11) rfl (by kernel_rfl) (fun K hK => ?_)
            refine step_storeS rfl 54 Tryd.sizeSls3 _ _ rfl g 0 rfl (some ⟨g4, 0, none⟩) (j + 1) cap4 rfl hcl4 hfz4 ?_
            have hz := hb4.set 0 (.slice (some ⟨g4, 0, none⟩) (j + 1) cap4)
            have hks : Keeps (One g) w4 (w4.setCell ⟨g, 0, none⟩ (.slice (some ⟨g4, 0, none⟩) (j + 1) cap4)) := (Keeps.refl _ _).setOne _ _
            generalize w4.setCell ⟨g, 0, none⟩ (.slice (some ⟨g4, 0, none⟩) (j + 1) cap4) = w5 at *
            have hlt1 := hb1.lt
            have hlt6 := hb6.lt
            have hv3 := hKw.size
            have hg4c : R g4 = 3 ∨ g4 = w3.heap.size := (hf4 g4 ((blkOf_some _ _ _ _).2 rfl)).imp (hrole g4) id
            have hgR : R g = 2 := HA.out.me
            have hgv : g < v0.heap.size := HA.out.obj.lt
            have hna : ∀ x, v0.heap.size ≤ x → ¬ blkOf a x := fun x hx e => by have := HA.out.own.lt x e; omega
            have hmore := HA.out.more (w' := w5) (g1 := g1) (c1 := 128) (g6 := g6) (b := zsec) (ga := g4) (cap' := cap4) (by omega) (by omega) (by omega) (by have := qk4.size; have := hks.size; omega)
              (((byteV_zsec ▸ hb1 : Blk w3 g1 (byteV zsec) 5).keep qk4 (hna g1 hg1v)).keep hks (fun e => by have : g1 = g := e; omega) |>.row8 zsec_bytes zsec_len (by omega))
              ((hb6.keep qk4 (hna g6 hg6v)).keep hks (fun e => by have : g6 = g := e; omega))
              ((hKw.nil.step qk4 (fun x hx => .inl (.inr (hrole x hx)))).step hks (fun x hx => .inl (.inl (by rw [show x = g from hx]; exact hgR))))
              (by rw [Dk.new_len]; exact ho4.keep hks (fun x hx e => by
                    have h1 := (blkOf_some _ _ _ _).1 hx
                    have h2 : x = g := e
                    rcases hg4c with h3 | h3
                    · rw [← h1, h2] at h3; omega
                    · omega))
              (hg4c.imp id (fun h => by omega))
              (by rw [Dk.new_len]; exact hz)
            obtain ⟨R', hmA, hRR⟩ := hmore
            refine (fun hHeld => hK _ _ hHeld ?_) (trivial)
            clear hK
            try simp only [Act.put, List.setIfInBounds_toArray, List.set_cons_zero, List.set_cons_succ]
            refine wpAnyH_done (by kernel_rfl) ?_ _
            have HX : Hid (IsRef w5 g R' (Dk.new (j + 1)) ∧ Keeps Nil w w5 ∧ ∀ k, R' k ≠ 0 → w.heap.size ≤ k) := by
              refine Lib.hid ⟨by rw [Dk.new_succ]; exact hmA.is, ?_, fun k hk => ?_⟩
              · refine (((hkj.out.trans HKD.out).trans hKw).step qk4 (fun x hx => .inr (hf.out x (by rw [hrole x hx]; decide)))).step hks (fun x hx => .inr (hf.out x (by rw [show x = g from hx, hgR]; decide)))
              · rcases Nat.lt_or_ge k v0.heap.size with h | h
                · rw [hRR k h] at hk; exact hf.out k hk
                · have := hkj.out.size; have := HKD.out.size; omega
            clear hmA hRR hz hks hcl4 hfz4 hb4 ho4 qk4 hf4 hown hb6 hb7 hb1 c0 hg1v hg6v hg16 hrole hgn hg4c hlt1 hlt6 hv3 hgR hgv hgl hKw hna
            go_wp2_with fail
            exact ⟨⟨j + 1, R', by go_num, by omega, Lib.hid HX.out.1, Lib.hid HX.out.2.1, Lib.hid HX.out.2.2⟩, by first | (simp [intOf]; done) | (simp [intOf]; omega)⟩
          · skip
            refine step_make rfl _ _ 25 rfl 5 (.int .u8 0) 1 Tryd.underlying25 Tryd.infoU8z rfl .i64 .i64 128 128 128 128 rfl rfl rfl rfl (by decide) (by decide) (by unfold maxLen; decide) ?_
            intro g1 w2 hg1 hb1 qk
            have hg1v : v0.heap.size ≤ g1 := by have := hKw.size; omega
            clear hg1
            refine (fun hHeld => hK _ _ hHeld ?_) (trivial)
            clear hK
            try simp only [Act.put, List.setIfInBounds_toArray, List.set_cons_zero, List.set_cons_succ]
            replace hKw := hKw.trans qk
            refine bothL (i := 4) (j := 6) rfl rfl (by kernel_rfl) (fun K hK => ?_) (fun K hK => ?_)
            · skip
              have c0x := hKw.cell c0 (fun h => h)
              go_simp
              clear c0x
              refine (fun hHeld => hK _ _ hHeld ?_) (trivial)
              clear hK
              try simp only [Act.put, List.setIfInBounds_toArray, List.set_cons_zero, List.set_cons_succ]
              refine onlyL (i := 6) rfl (by kernel_rfl) (fun K hK => ?_)
              refine step_bsK rfl 83 25 1 _ rfl [.slice (some ⟨g1, 0, none⟩) 128 128] Tryd.underlying83 Tryd.bsSls rfl (by decide) (by decide) (by simp [Act.eval]) (by simp [Value.cells]) ?_
              intro g6 w6 hg6 hb6 qk
              have hg6v : v0.heap.size ≤ g6 := by have := hKw.size; omega
              have hg16 : g1 < g6 := by have := hb1.lt; omega
              clear hg6
              refine (fun hHeld => hK _ _ hHeld ?_) (trivial)
              clear hK
              try simp only [Act.put, List.setIfInBounds_toArray, List.set_cons_zero, List.set_cons_succ]
              replace hKw := hKw.trans qk
              replace hb1 := hb1.keep0 qk
              refine onlyL (i := 7) rfl (by kernel_rfl) (fun K hK => ?_)
              refine step_bsK rfl 54 83 1 _ rfl [.slice (some ⟨g6, 0, none⟩) 1 1] Tryd.underlying54 Tryd.bsSls2 rfl (by decide) (by decide) (by simp [Act.eval]) (by simp [Value.cells]) ?_
              intro g7 w3 hg7 hb7 qk
              clear hg7
              refine (fun hHeld => hK _ _ hHeld ?_) (trivial)
              clear hK
              try simp only [Act.put, List.setIfInBounds_toArray, List.set_cons_zero, List.set_cons_succ]
              replace hKw := hKw.trans qk
              replace hb1 := hb1.keep0 qk
              replace hb6 := hb6.keep0 qk
              have hown := HA.out.own.keep0 hKw
              rw [Dk.new_len] at hown
              refine onlyL (i := 8) rfl (by kernel_rfl) (fun K hK => ?_)
              refine step_appendO rfl _ _ 54 rfl 83 1 24 Tryd.underlying54 Tryd.infoSls2 (by omega) a cap j tab rfl hown (some ⟨g7, 0, none⟩) 1 1 [.slice (some ⟨g6, 0, none⟩) 1 1] rfl (Src.one hb7 rfl) (by unfold maxLen; omega) (by omega) ?_
              intro a4 cap4 w4 ho4 qk4 hf4
              obtain ⟨g4, hg4, _, _⟩ := ho4.some (by omega)
              subst hg4
              have hrole : ∀ k, blkOf a k → R k = 3 := HA.out.role
              have hgn : ¬ blkOf a g := fun e => by have h1 := hrole g e; have := HA.out.me; omega
              have hb4 : Blk w4 g [.slice a (Dk.new j).vs.length cap, .int .i64 (-1), .bool false] 56 := (HA.out.obj.keep0 hKw).keep qk4 hgn
              have hcl4 := hb4.cell 0 rfl
              have hfz4 := hb4.frozen 0
              refine (fun hHeld => hK _ _ hHeld ?_) (trivial)
              clear hK
              try simp only [Act.put, List.setIfInBounds_toArray, List.set_cons_zero, List.set_cons_succ]
              refine takeL (i := 9) (v := _) rfl (by kernel_rfl) (by kernel_rfl) (by kernel_rfl) (fun _ _ _ h => h) (Or.inl ⟨by rfl, by intro w hSw; (try dsimp only at hSw); go_simp; try with_reducible rfl⟩) (by assumption) ?_
              try simp only [Act.put, List.setIfInBounds_toArray, List.set_cons_zero, List.set_cons_succ]
              refine takeL (i := 10) (v := _) rfl (by kernel_rfl) (by kernel_rfl) (by kernel_rfl) (fun _ _ _ h => h) (Or.inl ⟨by rfl, by intro w hSw; (try dsimp only at hSw); go_simp; try with_reducible rfl⟩) (by assumption) ?_
              try simp only [Act.put, List.setIfInBounds_toArray, List.set_cons_zero, List.set_cons_succ]
              refine onlyL (i := 11) rfl (by kernel_rfl) (fun K hK => ?_)
              refine step_storeS rfl 54 Tryd.sizeSls3 _ _ rfl g 0 rfl (some ⟨g4, 0, none⟩) (j + 1) cap4 rfl hcl4 hfz4 ?_
              have hz := hb4.set 0 (.slice (some ⟨g4, 0, none⟩) (j + 1) cap4)
              have hks : Keeps (One g) w4 (w4.setCell ⟨g, 0, none⟩ (.slice (some ⟨g4, 0, none⟩) (j + 1) cap4)) := (Keeps.refl _ _).setOne _ _
              generalize w4.setCell ⟨g, 0, none⟩ (.slice (some ⟨g4, 0, none⟩) (j + 1) cap4) = w5 at *
              have hlt1 := hb1.lt
              have hlt6 := hb6.lt
              have hv3 := hKw.size
              have hg4c : R g4 = 3 ∨ g4 = w3.heap.size := (hf4 g4 ((blkOf_some _ _ _ _).2 rfl)).imp (hrole g4) id
              have hgR : R g = 2 := HA.out.me
              have hgv : g < v0.heap.size := HA.out.obj.lt
              have hna : ∀ x, v0.heap.size ≤ x → ¬ blkOf a x := fun x hx e => by have := HA.out.own.lt x e; omega
              have hmore := HA.out.more (w' := w5) (g1 := g1) (c1 := 128) (g6 := g6) (b := zsec) (ga := g4) (cap' := cap4) (by omega) (by omega) (by omega) (by have := qk4.size; have := hks.size; omega)
                (((byteV_zsec ▸ hb1 : Blk w3 g1 (byteV zsec) 5).keep qk4 (hna g1 hg1v)).keep hks (fun e => by have : g1 = g := e; omega) |>.row8 zsec_bytes zsec_len (by omega))
                ((hb6.keep qk4 (hna g6 hg6v)).keep hks (fun e => by have : g6 = g := e; omega))
                ((hKw.nil.step qk4 (fun x hx => .inl (.inr (hrole x hx)))).step hks (fun x hx => .inl (.inl (by rw [show x = g from hx]; exact hgR))))
                (by rw [Dk.new_len]; exact ho4.keep hks (fun x hx e => by
                      have h1 := (blkOf_some _ _ _ _).1 hx
                      have h2 : x = g := e
                      rcases hg4c with h3 | h3
                      · rw [← h1, h2] at h3; omega
                      · omega))
                (hg4c.imp id (fun h => by omega))
                (by rw [Dk.new_len]; exact hz)
              obtain ⟨R', hmA, hRR⟩ := hmore
              refine (fun hHeld => hK _ _ hHeld ?_) (trivial)
              clear hK
              try simp only [Act.put, List.setIfInBounds_toArray, List.set_cons_zero, List.set_cons_succ]
              refine wpAnyH_done (by kernel_rfl) ?_ _
              have HX : Hid (IsRef w5 g R' (Dk.new (j + 1)) ∧ Keeps Nil w w5 ∧ ∀ k, R' k ≠ 0 → w.heap.size ≤ k) := by
                refine Lib.hid ⟨by rw [Dk.new_succ]; exact hmA.is, ?_, fun k hk => ?_⟩
                · refine (((hkj.out.trans HKD.out).trans hKw).step qk4 (fun x hx => .inr (hf.out x (by rw [hrole x hx]; decide)))).step hks (fun x hx => .inr (hf.out x (by rw [show x = g from hx, hgR]; decide)))
                · rcases Nat.lt_or_ge k v0.heap.size with h | h
                  · rw [hRR k h] at hk; exact hf.out k hk
                  · have := hkj.out.size; have := HKD.out.size; omega
              clear hmA hRR hz hks hcl4 hfz4 hb4 ho4 qk4 hf4 hown hb6 hb7 hb1 c0 hg1v hg6v hg16 hrole hgn hg4c hlt1 hlt6 hv3 hgR hgv hgl hKw hna
              go_wp2_with fail
              exact ⟨⟨j + 1, R', by go_num, by omega, Lib.hid HX.out.1, Lib.hid HX.out.2.1, Lib.hid HX.out.2.2⟩, by first | (simp [intOf]; done) | (simp [intOf]; omega)⟩
            · skip
              refine step_bsK rfl 83 25 1 _ rfl [.slice (some ⟨g1, 0, none⟩) 128 128] Tryd.underlying83 Tryd.bsSls rfl (by decide) (by decide) (by simp [Act.eval]) (by simp [Value.cells]) ?_
              intro g6 w6 hg6 hb6 qk
              have hg6v : v0.heap.size ≤ g6 := by have := hKw.size; omega
              have hg16 : g1 < g6 := by have := hb1.lt; omega
              clear hg6
              refine (fun hHeld => hK _ _ hHeld ?_) (trivial)
              clear hK
              try simp only [Act.put, List.setIfInBounds_toArray, List.set_cons_zero, List.set_cons_succ]
              replace hKw := hKw.trans qk
              replace hb1 := hb1.keep0 qk
              refine bothL (i := 4) (j := 7) rfl rfl (by kernel_rfl) (fun K hK => ?_) (fun K hK => ?_)
              · skip
                have c0x := hKw.cell c0 (fun h => h)
                go_simp
                clear c0x
                refine (fun hHeld => hK _ _ hHeld ?_) (trivial)
                clear hK
                try simp only [Act.put, List.setIfInBounds_toArray, List.set_cons_zero, List.set_cons_succ]
                refine onlyL (i := 7) rfl (by kernel_rfl) (fun K hK => ?_)
                refine step_bsK rfl 54 83 1 _ rfl [.slice (some ⟨g6, 0, none⟩) 1 1] Tryd.underlying54 Tryd.bsSls2 rfl (by decide) (by decide) (by simp [Act.eval]) (by simp [Value.cells]) ?_
                intro g7 w3 hg7 hb7 qk
                clear hg7
                refine (fun hHeld => hK _ _ hHeld ?_) (trivial)
                clear hK
                try simp only [Act.put, List.setIfInBounds_toArray, List.set_cons_zero, List.set_cons_succ]
                replace hKw := hKw.trans qk
                replace hb1 := hb1.keep0 qk
                replace hb6 := hb6.keep0 qk
                have hown := HA.out.own.keep0 hKw
                rw [Dk.new_len] at hown
                refine onlyL (i := 8) rfl (by kernel_rfl) (fun K hK => ?_)
                refine step_appendO rfl _ _ 54 rfl 83 1 24 Tryd.underlying54 Tryd.infoSls2 (by omega) a cap j tab rfl hown (some ⟨g7, 0, none⟩) 1 1 [.slice (some ⟨g6, 0, none⟩) 1 1] rfl (Src.one hb7 rfl) (by unfold maxLen; omega) (by omega) ?_
                intro a4 cap4 w4 ho4 qk4 hf4
                obtain ⟨g4, hg4, _, _⟩ := ho4.some (by omega)
                subst hg4
                have hrole : ∀ k, blkOf a k → R k = 3 := HA.out.role
                have hgn : ¬ blkOf a g := fun e => by have h1 := hrole g e; have := HA.out.me; omega
                have hb4 : Blk w4 g [.slice a (Dk.new j).vs.length cap, .int .i64 (-1), .bool false] 56 := (HA.out.obj.keep0 hKw).keep qk4 hgn
                have hcl4 := hb4.cell 0 rfl
                have hfz4 := hb4.frozen 0
                refine (fun hHeld => hK _ _ hHeld ?_) (trivial)
                clear hK
                try simp only [Act.put, List.setIfInBounds_toArray, List.set_cons_zero, List.set_cons_succ]
                refine takeL (i := 9) (v := _) rfl (by kernel_rfl) (by kernel_rfl) (by kernel_rfl) (fun _ _ _ h => h) (Or.inl ⟨by rfl, by intro w hSw; (try dsimp only at hSw); go_simp; try with_reducible rfl⟩) (by assumption) ?_
                try simp only [Act.put, List.setIfInBounds_toArray, List.set_cons_zero, List.set_cons_succ]
                refine takeL (i := 10) (v := _) rfl (by kernel_rfl) (by kernel_rfl) (by kernel_rfl) (fun _ _ _ h => h) (Or.inl ⟨by rfl, by intro w hSw; (try dsimp only at hSw); go_simp; try with_reducible rfl⟩) (by assumption) ?_
                try simp only [Act.put, List.setIfInBounds_toArray, List.set_cons_zero, List.set_cons_succ]
                refine onlyL (i := 11) rfl (by kernel_rfl) (fun K hK => ?_)
                refine step_storeS rfl 54 Tryd.sizeSls3 _ _ rfl g 0 rfl (some ⟨g4, 0, none⟩) (j + 1) cap4 rfl hcl4 hfz4 ?_
                have hz := hb4.set 0 (.slice (some ⟨g4, 0, none⟩) (j + 1) cap4)
                have hks : Keeps (One g) w4 (w4.setCell ⟨g, 0, none⟩ (.slice (some ⟨g4, 0, none⟩) (j + 1) cap4)) := (Keeps.refl _ _).setOne _ _
                generalize w4.setCell ⟨g, 0, none⟩ (.slice (some ⟨g4, 0, none⟩) (j + 1) cap4) = w5 at *
                have hlt1 := hb1.lt
                have hlt6 := hb6.lt
                have hv3 := hKw.size
                have hg4c : R g4 = 3 ∨ g4 = w3.heap.size := (hf4 g4 ((blkOf_some _ _ _ _).2 rfl)).imp (hrole g4) id
                have hgR : R g = 2 := HA.out.me
                have hgv : g < v0.heap.size := HA.out.obj.lt
                have hna : ∀ x, v0.heap.size ≤ x → ¬ blkOf a x := fun x hx e => by have := HA.out.own.lt x e; omega
                have hmore := HA.out.more (w' := w5) (g1 := g1) (c1 := 128) (g6 := g6) (b := zsec) (ga := g4) (cap' := cap4) (by omega) (by omega) (by omega) (by have := qk4.size; have := hks.size; omega)
                  (((byteV_zsec ▸ hb1 : Blk w3 g1 (byteV zsec) 5).keep qk4 (hna g1 hg1v)).keep hks (fun e => by have : g1 = g := e; omega) |>.row8 zsec_bytes zsec_len (by omega))
                  ((hb6.keep qk4 (hna g6 hg6v)).keep hks (fun e => by have : g6 = g := e; omega))
                  ((hKw.nil.step qk4 (fun x hx => .inl (.inr (hrole x hx)))).step hks (fun x hx => .inl (.inl (by rw [show x = g from hx]; exact hgR))))
                  (by rw [Dk.new_len]; exact ho4.keep hks (fun x hx e => by
                        have h1 := (blkOf_some _ _ _ _).1 hx
                        have h2 : x = g := e
                        rcases hg4c with h3 | h3
                        · rw [← h1, h2] at h3; omega
                        · omega))
                  (hg4c.imp id (fun h => by omega))
                  (by rw [Dk.new_len]; exact hz)
                obtain ⟨R', hmA, hRR⟩ := hmore
                refine (fun hHeld => hK _ _ hHeld ?_) (trivial)
                clear hK
                try simp only [Act.put, List.setIfInBounds_toArray, List.set_cons_zero, List.set_cons_succ]
                refine wpAnyH_done (by kernel_rfl) ?_ _
                have HX : Hid (IsRef w5 g R' (Dk.new (j + 1)) ∧ Keeps Nil w w5 ∧ ∀ k, R' k ≠ 0 → w.heap.size ≤ k) := by
                  refine Lib.hid ⟨by rw [Dk.new_succ]; exact hmA.is, ?_, fun k hk => ?_⟩
                  · refine (((hkj.out.trans HKD.out).trans hKw).step qk4 (fun x hx => .inr (hf.out x (by rw [hrole x hx]; decide)))).step hks (fun x hx => .inr (hf.out x (by rw [show x = g from hx, hgR]; decide)))
                  · rcases Nat.lt_or_ge k v0.heap.size with h | h
                    · rw [hRR k h] at hk; exact hf.out k hk
                    · have := hkj.out.size; have := HKD.out.size; omega
                clear hmA hRR hz hks hcl4 hfz4 hb4 ho4 qk4 hf4 hown hb6 hb7 hb1 c0 hg1v hg6v hg16 hrole hgn hg4c hlt1 hlt6 hv3 hgR hgv hgl hKw hna
                go_wp2_with fail
                exact ⟨⟨j + 1, R', by go_num, by omega, Lib.hid HX.out.1, Lib.hid HX.out.2.1, Lib.hid HX.out.2.2⟩, by first | (simp [intOf]; done) | (simp [intOf]; omega)⟩
              · skip
                refine step_bsK rfl 54 83 1 _ rfl [.slice (some ⟨g6, 0, none⟩) 1 1] Tryd.underlying54 Tryd.bsSls2 rfl (by decide) (by decide) (by simp [Act.eval]) (by simp [Value.cells]) ?_
                intro g7 w3 hg7 hb7 qk
                clear hg7
                refine (fun hHeld => hK _ _ hHeld ?_) (trivial)
                clear hK
                try simp only [Act.put, List.setIfInBounds_toArray, List.set_cons_zero, List.set_cons_succ]
                replace hKw := hKw.trans qk
                replace hb1 := hb1.keep0 qk
                replace hb6 := hb6.keep0 qk
                refine onlyL (i := 4) rfl (by kernel_rfl) (fun K hK => ?_)
                have c0x := hKw.cell c0 (fun h => h)
                go_simp
                clear c0x
                refine (fun hHeld => hK _ _ hHeld ?_) (trivial)
                clear hK
                try simp only [Act.put, List.setIfInBounds_toArray, List.set_cons_zero, List.set_cons_succ]
                have hown := HA.out.own.keep0 hKw
                rw [Dk.new_len] at hown
                refine onlyL (i := 8) rfl (by kernel_rfl) (fun K hK => ?_)
                refine step_appendO rfl _ _ 54 rfl 83 1 24 Tryd.underlying54 Tryd.infoSls2 (by omega) a cap j tab rfl hown (some ⟨g7, 0, none⟩) 1 1 [.slice (some ⟨g6, 0, none⟩) 1 1] rfl (Src.one hb7 rfl) (by unfold maxLen; omega) (by omega) ?_
                intro a4 cap4 w4 ho4 qk4 hf4
                obtain ⟨g4, hg4, _, _⟩ := ho4.some (by omega)
                subst hg4
                have hrole : ∀ k, blkOf a k → R k = 3 := HA.out.role
                have hgn : ¬ blkOf a g := fun e => by have h1 := hrole g e; have := HA.out.me; omega
                have hb4 : Blk w4 g [.slice a (Dk.new j).vs.length cap, .int .i64 (-1), .bool false] 56 := (HA.out.obj.keep0 hKw).keep qk4 hgn
                have hcl4 := hb4.cell 0 rfl
                have hfz4 := hb4.frozen 0
                refine (fun hHeld => hK _ _ hHeld ?_) (trivial)
                clear hK
                try simp only [Act.put, List.setIfInBounds_toArray, List.set_cons_zero, List.set_cons_succ]
                refine takeL (i := 9) (v := _) rfl (by kernel_rfl) (by kernel_rfl) (by kernel_rfl) (fun _ _ _ h => h) (Or.inl ⟨by rfl, by intro w hSw; (try dsimp only at hSw); go_simp; try with_reducible rfl⟩) (by assumption) ?_
                try simp only [Act.put, List.setIfInBounds_toArray, List.set_cons_zero, List.set_cons_succ]
                refine takeL (i := 10) (v := _) rfl (by kernel_rfl) (by kernel_rfl) (by kernel_rfl) (fun _ _ _ h => h) (Or.inl ⟨by rfl, by intro w hSw; (try dsimp only at hSw); go_simp; try with_reducible rfl⟩) (by assumption) ?_
                try simp only [Act.put, List.setIfInBounds_toArray, List.set_cons_zero, List.set_cons_succ]
                refine onlyL (i := 11) rfl (by kernel_rfl) (fun K hK => ?_)
                refine step_storeS rfl 54 Tryd.sizeSls3 _ _ rfl g 0 rfl (some ⟨g4, 0, none⟩) (j + 1) cap4 rfl hcl4 hfz4 ?_
                have hz := hb4.set 0 (.slice (some ⟨g4, 0, none⟩) (j + 1) cap4)
                have hks : Keeps (One g) w4 (w4.setCell ⟨g, 0, none⟩ (.slice (some ⟨g4, 0, none⟩) (j + 1) cap4)) := (Keeps.refl _ _).setOne _ _
                generalize w4.setCell ⟨g, 0, none⟩ (.slice (some ⟨g4, 0, none⟩) (j + 1) cap4) = w5 at *
                have hlt1 := hb1.lt
                have hlt6 := hb6.lt
                have hv3 := hKw.size
                have hg4c : R g4 = 3 ∨ g4 = w3.heap.size := (hf4 g4 ((blkOf_some _ _ _ _).2 rfl)).imp (hrole g4) id
                have hgR : R g = 2 := HA.out.me
                have hgv : g < v0.heap.size := HA.out.obj.lt
                have hna : ∀ x, v0.heap.size ≤ x → ¬ blkOf a x := fun x hx e => by have := HA.out.own.lt x e; omega
                have hmore := HA.out.more (w' := w5) (g1 := g1) (c1 := 128) (g6 := g6) (b := zsec) (ga := g4) (cap' := cap4) (by omega) (by omega) (by omega) (by have := qk4.size; have := hks.size; omega)
                  (((byteV_zsec ▸ hb1 : Blk w3 g1 (byteV zsec) 5).keep qk4 (hna g1 hg1v)).keep hks (fun e => by have : g1 = g := e; omega) |>.row8 zsec_bytes zsec_len (by omega))
                  ((hb6.keep qk4 (hna g6 hg6v)).keep hks (fun e => by have : g6 = g := e; omega))
                  ((hKw.nil.step qk4 (fun x hx => .inl (.inr (hrole x hx)))).step hks (fun x hx => .inl (.inl (by rw [show x = g from hx]; exact hgR))))
                  (by rw [Dk.new_len]; exact ho4.keep hks (fun x hx e => by
                        have h1 := (blkOf_some _ _ _ _).1 hx
                        have h2 : x = g := e
                        rcases hg4c with h3 | h3
                        · rw [← h1, h2] at h3; omega
                        · omega))
                  (hg4c.imp id (fun h => by omega))
                  (by rw [Dk.new_len]; exact hz)
                obtain ⟨R', hmA, hRR⟩ := hmore
                refine (fun hHeld => hK _ _ hHeld ?_) (trivial)
                clear hK
                try simp only [Act.put, List.setIfInBounds_toArray, List.set_cons_zero, List.set_cons_succ]
                refine wpAnyH_done (by kernel_rfl) ?_ _
                have HX : Hid (IsRef w5 g R' (Dk.new (j + 1)) ∧ Keeps Nil w w5 ∧ ∀ k, R' k ≠ 0 → w.heap.size ≤ k) := by
                  refine Lib.hid ⟨by rw [Dk.new_succ]; exact hmA.is, ?_, fun k hk => ?_⟩
                  · refine (((hkj.out.trans HKD.out).trans hKw).step qk4 (fun x hx => .inr (hf.out x (by rw [hrole x hx]; decide)))).step hks (fun x hx => .inr (hf.out x (by rw [show x = g from hx, hgR]; decide)))
                  · rcases Nat.lt_or_ge k v0.heap.size with h | h
                    · rw [hRR k h] at hk; exact hf.out k hk
                    · have := hkj.out.size; have := HKD.out.size; omega
                clear hmA hRR hz hks hcl4 hfz4 hb4 ho4 qk4 hf4 hown hb6 hb7 hb1 c0 hg1v hg6v hg16 hrole hgn hg4c hlt1 hlt6 hv3 hgR hgv hgl hKw hna
                go_wp2_with fail
                exact ⟨⟨j + 1, R', by go_num, by omega, Lib.hid HX.out.1, Lib.hid HX.out.2.1, Lib.hid HX.out.2.2⟩, by first | (simp [intOf]; done) | (simp [intOf]; omega)⟩
        · have hj1 : ¬ ((j : Int) < 400) := by have := HN.out; omega
          obtain rfl : j = N := by omega
          have HF := Lib.hid (And.intro hD.out (And.intro hkj.out hf.out))
          go_wp2_with fail
          go_ret
          exact ⟨g, R, rfl, HF.out.1, HF.out.2.1, HF.out.2.2⟩
    · have h2b : n ≤ 400 := by omega
      obtain ⟨w1, g, hg, hb, hw1, hk1⟩ := alloc1 w [.slice none 0 0, .int .i64 (-1), .bool false] 56
      have HB := Lib.hid (And.intro (refNew0 (Nat.le_of_eq hg.symm) hb) hk1)
      have HW := Lib.hid hw1
      have HG := Lib.hid hg
      clear hb hk1 hg hw1
      go_enter Tryd.func26, Tryd.ntmps26
      go_wp2_with fail
      rw [← HG.out, ← HW.out]
      go_loopw [4] (fun x wr => ∃ (j : Nat) (R : Roles), x = .int .i64 j ∧ j ≤ N ∧ Hid (IsRef wr g R (Dk.new j)) ∧ Hid (Keeps Nil w wr) ∧ Hid (∀ k, R k ≠ 0 → w.heap.size ≤ k)) (fun x _ => N - (intOf x).toNat)
      case atStart => exact ⟨0, _, rfl, Nat.zero_le _, Lib.hid HB.out.1.1.is, Lib.hid HB.out.2, Lib.hid HB.out.1.2⟩
      case round =>
        obtain ⟨j, R, rfl, hj, hD, hkj, hf⟩ := hrel
        by_cases hjn : j < N
        · obtain ⟨a, cap, tab, hA⟩ := hD.out
          have c0 := hA.obj.cell 0 rfl
          have hgl := hA.obj.lt
          rw [Dk.new_len] at c0
          have hj0 : (0 : Int) ≤ j := by omega
          have hj1 : (j : Int) < n := by have := HN.out; omega
          go_upto_region 5 with fail
          refine wp_region_held_drew (S := fun _ => True) (by kernel_rfl) trivial (fun hHeld => ?_)
          have hkd : Keeps Nil wr wr.drew := (Keeps.refl Nil wr).drew
          replace c0 := hkd.cell c0 (fun h => h)
          have HKD := Lib.hid hkd
          have HA := Lib.hid (hA.keep0 hkd)
          have hKw : Keeps Nil wr.drew wr.drew := Keeps.refl _ _
          clear hkd hA
          generalize wr.drew = v0 at *
          refine takeL (i := 0) (v := _) rfl (by kernel_rfl) (by kernel_rfl) (by kernel_rfl) (fun _ _ _ h => h) (Or.inl ⟨by rfl, by intro w hSw; (try dsimp only at hSw); go_simp; try with_reducible rfl⟩) (by assumption) ?_
          try simp only [Act.put, List.setIfInBounds_toArray, List.set_cons_zero, List.set_cons_succ]
          refine takeL (i := 1) (v := _) rfl (by kernel_rfl) (by kernel_rfl) (by kernel_rfl) (fun _ _ _ h => h) (Or.inl ⟨by rfl, by intro w hSw; (try dsimp only at hSw); go_simp; try with_reducible rfl⟩) (by assumption) ?_
          try simp only [Act.put, List.setIfInBounds_toArray, List.set_cons_zero, List.set_cons_succ]
          refine takeL (i := 2) (v := _) rfl (by kernel_rfl) (by kernel_rfl) (by kernel_rfl) (fun _ _ _ h => h) (Or.inl ⟨by rfl, by intro w hSw; (try dsimp only at hSw); go_simp; try with_reducible rfl⟩) (by assumption) ?_
          try simp only [Act.put, List.setIfInBounds_toArray, List.set_cons_zero, List.set_cons_succ]
          refine takeL (i := 3) (v := _) rfl (by kernel_rfl) (by kernel_rfl) (by kernel_rfl) (fun _ _ _ h => h) (Or.inl ⟨by rfl, by intro w hSw; (try dsimp only at hSw); go_simp; try with_reducible rfl⟩) (by assumption) ?_
          try simp only [Act.put, List.setIfInBounds_toArray, List.set_cons_zero, List.set_cons_succ]
          refine bothL (i := 4) (j := 5) rfl rfl (by kernel_rfl) (fun K hK => ?_) (fun K hK => ?_)
          · skip
            have c0x := hKw.cell c0 (fun h => h)
            go_simp
            clear c0x
            refine (fun hHeld => hK _ _ hHeld ?_) (trivial)
            clear hK
            try simp only [Act.put, List.setIfInBounds_toArray, List.set_cons_zero, List.set_cons_succ]
            refine onlyL (i := 5) rfl (by kernel_rfl) (fun K hK => ?_)
            refine step_make rfl _ _ 25 rfl 5 (.int .u8 0) 1 Tryd.underlying25 Tryd.infoU8z rfl .i64 .i64 128 128 128 128 rfl rfl rfl rfl (by decide) (by decide) (by unfold maxLen; decide) ?_
            intro g1 w2 hg1 hb1 qk
            have hg1v : v0.heap.size ≤ g1 := by have := hKw.size; omega
            clear hg1
            refine (fun hHeld => hK _ _ hHeld ?_) (trivial)
            clear hK
            try simp only [Act.put, List.setIfInBounds_toArray, List.set_cons_zero, List.set_cons_succ]
            replace hKw := hKw.trans qk
            refine onlyL (i := 6) rfl (by kernel_rfl) (fun K hK => ?_)
            refine step_bsK rfl 83 25 1 _ rfl [.slice (some ⟨g1, 0, none⟩) 128 128] Tryd.underlying83 Tryd.bsSls rfl (by decide) (by decide) (by simp [Act.eval]) (by simp [Value.cells]) ?_
            intro g6 w6 hg6 hb6 qk
            have hg6v : v0.heap.size ≤ g6 := by have := hKw.size; omega
            have hg16 : g1 < g6 := by have := hb1.lt; omega
            clear hg6
            refine (fun hHeld => hK _ _ hHeld ?_) (trivial)
            clear hK
            try simp only [Act.put, List.setIfInBounds_toArray, List.set_cons_zero, List.set_cons_succ]
            replace hKw := hKw.trans qk
            replace hb1 := hb1.keep0 qk
            refine onlyL (i := 7) rfl (by kernel_rfl) (fun K hK => ?_)
            refine step_bsK rfl 54 83 1 _ rfl [.slice (some ⟨g6, 0, none⟩) 1 1] Tryd.underlying54 Tryd.bsSls2 rfl (by decide) (by decide) (by simp [Act.eval]) (by simp [Value.cells]) ?_
            intro g7 w3 hg7 hb7 qk
            clear hg7
            refine (fun hHeld => hK _ _ hHeld ?_) (trivial)
            clear hK
            try simp only [Act.put, List.setIfInBounds_toArray, List.set_cons_zero, List.set_cons_succ]
            replace hKw := hKw.trans qk
            replace hb1 := hb1.keep0 qk
            replace hb6 := hb6.keep0 qk
            have hown := HA.out.own.keep0 hKw
            rw [Dk.new_len] at hown
            refine onlyL (i := 8) rfl (by kernel_rfl) (fun K hK => ?_)
            refine step_appendO rfl _ _ 54 rfl 83 1 24 Tryd.underlying54 Tryd.infoSls2 (by omega) a cap j tab rfl hown (some ⟨g7, 0, none⟩) 1 1 [.slice (some ⟨g6, 0, none⟩) 1 1] rfl (Src.one hb7 rfl) (by unfold maxLen; omega) (by omega) ?_
            intro a4 cap4 w4 ho4 qk4 hf4
            obtain ⟨g4, hg4, _, _⟩ := ho4.some (by omega)
            subst hg4
            have hrole : ∀ k, blkOf a k → R k = 3 := HA.out.role
            have hgn : ¬ blkOf a g := fun e => by have h1 := hrole g e; have := HA.out.me; omega
            have hb4 : Blk w4 g [.slice a (Dk.new j).vs.length cap, .int .i64 (-1), .bool false] 56 := (HA.out.obj.keep0 hKw).keep qk4 hgn
            have hcl4 := hb4.cell 0 rfl
            have hfz4 := hb4.frozen 0
            refine (fun hHeld => hK _ _ hHeld ?_) (trivial)
            clear hK
            try simp only [Act.put, List.setIfInBounds_toArray, List.set_cons_zero, List.set_cons_succ]
            refine takeL (i := 9) (v := _) rfl (by kernel_rfl) (by kernel_rfl) (by kernel_rfl) (fun _ _ _ h => h) (Or.inl ⟨by rfl, by intro w hSw; (try dsimp only at hSw); go_simp; try with_reducible rfl⟩) (by assumption) ?_
            try simp only [Act.put, List.setIfInBounds_toArray, List.set_cons_zero, List.set_cons_succ]
            refine takeL (i := 10) (v := _) rfl (by kernel_rfl) (by kernel_rfl) (by kernel_rfl) (fun _ _ _ h => h) (Or.inl ⟨by rfl, by intro w hSw; (try dsimp only at hSw); go_simp; try with_reducible rfl⟩) (by assumption) ?_
            try simp only [Act.put, List.setIfInBounds_toArray, List.set_cons_zero, List.set_cons_succ]
            refine onlyL (i := 11) rfl (by kernel_rfl) (fun K hK => ?_)
            refine step_storeS rfl 54 Tryd.sizeSls3 _ _ rfl g 0 rfl (some ⟨g4, 0, none⟩) (j + 1) cap4 rfl hcl4 hfz4 ?_
            have hz := hb4.set 0 (.slice (some ⟨g4, 0, none⟩) (j + 1) cap4)
            have hks : Keeps (One g) w4 (w4.setCell ⟨g, 0, none⟩ (.slice (some ⟨g4, 0, none⟩) (j + 1) cap4)) := (Keeps.refl _ _).setOne _ _
            generalize w4.setCell ⟨g, 0, none⟩ (.slice (some ⟨g4, 0, none⟩) (j + 1) cap4) = w5 at *
            have hlt1 := hb1.lt
            have hlt6 := hb6.lt
            have hv3 := hKw.size
            have hg4c : R g4 = 3 ∨ g4 = w3.heap.size := (hf4 g4 ((blkOf_some _ _ _ _).2 rfl)).imp (hrole g4) id
            have hgR : R g = 2 := HA.out.me
            have hgv : g < v0.heap.size := HA.out.obj.lt
            have hna : ∀ x, v0.heap.size ≤ x → ¬ blkOf a x := fun x hx e => by have := HA.out.own.lt x e; omega
            have hmore := HA.out.more (w' := w5) (g1 := g1) (c1 := 128) (g6 := g6) (b := zsec) (ga := g4) (cap' := cap4) (by omega) (by omega) (by omega) (by have := qk4.size; have := hks.size; omega)
              (((byteV_zsec ▸ hb1 : Blk w3 g1 (byteV zsec) 5).keep qk4 (hna g1 hg1v)).keep hks (fun e => by have : g1 = g := e; omega) |>.row8 zsec_bytes zsec_len (by omega))
              ((hb6.keep qk4 (hna g6 hg6v)).keep hks (fun e => by have : g6 = g := e; omega))
              ((hKw.nil.step qk4 (fun x hx => .inl (.inr (hrole x hx)))).step hks (fun x hx => .inl (.inl (by rw [show x = g from hx]; exact hgR))))
              (by rw [Dk.new_len]; exact ho4.keep hks (fun x hx e => by
                    have h1 := (blkOf_some _ _ _ _).1 hx
                    have h2 : x = g := e
                    rcases hg4c with h3 | h3
                    · rw [← h1, h2] at h3; omega
                    · omega))
              (hg4c.imp id (fun h => by omega))
              (by rw [Dk.new_len]; exact hz)
            obtain ⟨R', hmA, hRR⟩ := hmore
            refine (fun hHeld => hK _ _ hHeld ?_) (trivial)
            clear hK
            try simp only [Act.put, List.setIfInBounds_toArray, List.set_cons_zero, List.set_cons_succ]
            refine wpAnyH_done (by kernel_rfl) ?_ _
            have HX : Hid (IsRef w5 g R' (Dk.new (j + 1)) ∧ Keeps Nil w w5 ∧ ∀ k, R' k ≠ 0 → w.heap.size ≤ k) := by
              refine Lib.hid ⟨by rw [Dk.new_succ]; exact hmA.is, ?_, fun k hk => ?_⟩
              · refine (((hkj.out.trans HKD.out).trans hKw).step qk4 (fun x hx => .inr (hf.out x (by rw [hrole x hx]; decide)))).step hks (fun x hx => .inr (hf.out x (by rw [show x = g from hx, hgR]; decide)))
              · rcases Nat.lt_or_ge k v0.heap.size with h | h
                · rw [hRR k h] at hk; exact hf.out k hk
                · have := hkj.out.size; have := HKD.out.size; omega
            clear hmA hRR hz hks hcl4 hfz4 hb4 ho4 qk4 hf4 hown hb6 hb7 hb1 c0 hg1v hg6v hg16 hrole hgn hg4c hlt1 hlt6 hv3 hgR hgv hgl hKw hna
            go_wp2_with fail
            exact ⟨⟨j + 1, R', by go_num, by omega, Lib.hid HX.out.1, Lib.hid HX.out.2.1, Lib.hid HX.out.2.2⟩, by first | (simp [intOf]; done) | (simp [intOf]; omega)⟩
          · skip
            refine step_make rfl _ _ 25 rfl 5 (.int .u8 0) 1 Tryd.underlying25 Tryd.infoU8z rfl .i64 .i64 128 128 128 128 rfl rfl rfl rfl (by decide) (by decide) (by unfold maxLen; decide) ?_
            intro g1 w2 hg1 hb1 qk
            have hg1v : v0.heap.size ≤ g1 := by have := hKw.size; omega
            clear hg1
            refine (fun hHeld => hK _ _ hHeld ?_) (trivial)
            clear hK
            try simp only [Act.put, List.setIfInBounds_toArray, List.set_cons_zero, List.set_cons_succ]
            replace hKw := hKw.trans qk
            refine bothL (i := 4) (j := 6) rfl rfl (by kernel_rfl) (fun K hK => ?_) (fun K hK => ?_)
            · skip
              have c0x := hKw.cell c0 (fun h => h)
              go_simp
              clear c0x
              refine (fun hHeld => hK _ _ hHeld ?_) (trivial)
              clear hK
              try simp only [Act.put, List.setIfInBounds_toArray, List.set_cons_zero, List.set_cons_succ]
              refine onlyL (i := 6) rfl (by kernel_rfl) (fun K hK => ?_)
              refine step_bsK rfl 83 25 1 _ rfl [.slice (some ⟨g1, 0, none⟩) 128 128] Tryd.underlying83 Tryd.bsSls rfl (by decide) (by decide) (by simp [Act.eval]) (by simp [Value.cells]) ?_
              intro g6 w6 hg6 hb6 qk
              have hg6v : v0.heap.size ≤ g6 := by have := hKw.size; omega
              have hg16 : g1 < g6 := by have := hb1.lt; omega
              clear hg6
              refine (fun hHeld => hK _ _ hHeld ?_) (trivial)
              clear hK
              try simp only [Act.put, List.setIfInBounds_toArray, List.set_cons_zero, List.set_cons_succ]
              replace hKw := hKw.trans qk
              replace hb1 := hb1.keep0 qk
              refine onlyL (i := 7) rfl (by kernel_rfl) (fun K hK => ?_)
              refine step_bsK rfl 54 83 1 _ rfl [.slice (some ⟨g6, 0, none⟩) 1 1] Tryd.underlying54 Tryd.bsSls2 rfl (by decide) (by decide) (by simp [Act.eval]) (by simp [Value.cells]) ?_
              intro g7 w3 hg7 hb7 qk
              clear hg7
              refine (fun hHeld => hK _ _ hHeld ?_) (trivial)
              clear hK
              try simp only [Act.put, List.setIfInBounds_toArray, List.set_cons_zero, List.set_cons_succ]
              replace hKw := hKw.trans qk
              replace hb1 := hb1.keep0 qk
              replace hb6 := hb6.keep0 qk
              have hown := HA.out.own.keep0 hKw
              rw [Dk.new_len] at hown
              refine onlyL (i := 8) rfl (by kernel_rfl) (fun K hK => ?_)
              refine step_appendO rfl _ _ 54 rfl 83 1 24 Tryd.underlying54 Tryd.infoSls2 (by omega) a cap j tab rfl hown (some ⟨g7, 0, none⟩) 1 1 [.slice (some ⟨g6, 0, none⟩) 1 1] rfl (Src.one hb7 rfl) (by unfold maxLen; omega) (by omega) ?_
              intro a4 cap4 w4 ho4 qk4 hf4
              obtain ⟨g4, hg4, _, _⟩ := ho4.some (by omega)
              subst hg4
              have hrole : ∀ k, blkOf a k → R k = 3 := HA.out.role
              have hgn : ¬ blkOf a g := fun e => by have h1 := hrole g e; have := HA.out.me; omega
              have hb4 : Blk w4 g [.slice a (Dk.new j).vs.length cap, .int .i64 (-1), .bool false] 56 := (HA.out.obj.keep0 hKw).keep qk4 hgn
              have hcl4 := hb4.cell 0 rfl
              have hfz4 := hb4.frozen 0
              refine (fun hHeld => hK _ _ hHeld ?_) (trivial)
              clear hK
              try simp only [Act.put, List.setIfInBounds_toArray, List.set_cons_zero, List.set_cons_succ]
              refine takeL (i := 9) (v := _) rfl (by kernel_rfl) (by kernel_rfl) (by kernel_rfl) (fun _ _ _ h => h) (Or.inl ⟨by rfl, by intro w hSw; (try dsimp only at hSw); go_simp; try with_reducible rfl⟩) (by assumption) ?_
              try simp only [Act.put, List.setIfInBounds_toArray, List.set_cons_zero, List.set_cons_succ]
              refine takeL (i := 10) (v := _) rfl (by kernel_rfl) (by kernel_rfl) (by kernel_rfl) (fun _ _ _ h => h) (Or.inl ⟨by rfl, by intro w hSw; (try dsimp only at hSw); go_simp; try with_reducible rfl⟩) (by assumption) ?_
              try simp only [Act.put, List.setIfInBounds_toArray, List.set_cons_zero, List.set_cons_succ]
              refine onlyL (i := 11) rfl (by kernel_rfl) (fun K hK => ?_)
              refine step_storeS rfl 54 Tryd.sizeSls3 _ _ rfl g 0 rfl (some ⟨g4, 0, none⟩) (j + 1) cap4 rfl hcl4 hfz4 ?_
              have hz := hb4.set 0 (.slice (some ⟨g4, 0, none⟩) (j + 1) cap4)
              have hks : Keeps (One g) w4 (w4.setCell ⟨g, 0, none⟩ (.slice (some ⟨g4, 0, none⟩) (j + 1) cap4)) := (Keeps.refl _ _).setOne _ _
              generalize w4.setCell ⟨g, 0, none⟩ (.slice (some ⟨g4, 0, none⟩) (j + 1) cap4) = w5 at *
              have hlt1 := hb1.lt
              have hlt6 := hb6.lt
              have hv3 := hKw.size
              have hg4c : R g4 = 3 ∨ g4 = w3.heap.size := (hf4 g4 ((blkOf_some _ _ _ _).2 rfl)).imp (hrole g4) id
              have hgR : R g = 2 := HA.out.me
              have hgv : g < v0.heap.size := HA.out.obj.lt
              have hna : ∀ x, v0.heap.size ≤ x → ¬ blkOf a x := fun x hx e => by have := HA.out.own.lt x e; omega
              have hmore := HA.out.more (w' := w5) (g1 := g1) (c1 := 128) (g6 := g6) (b := zsec) (ga := g4) (cap' := cap4) (by omega) (by omega) (by omega) (by have := qk4.size; have := hks.size; omega)
                (((byteV_zsec ▸ hb1 : Blk w3 g1 (byteV zsec) 5).keep qk4 (hna g1 hg1v)).keep hks (fun e => by have : g1 = g := e; omega) |>.row8 zsec_bytes zsec_len (by omega))
                ((hb6.keep qk4 (hna g6 hg6v)).keep hks (fun e => by have : g6 = g := e; omega))
                ((hKw.nil.step qk4 (fun x hx => .inl (.inr (hrole x hx)))).step hks (fun x hx => .inl (.inl (by rw [show x = g from hx]; exact hgR))))
                (by rw [Dk.new_len]; exact ho4.keep hks (fun x hx e => by
                      have h1 := (blkOf_some _ _ _ _).1 hx
                      have h2 : x = g := e
                      rcases hg4c with h3 | h3
                      · rw [← h1, h2] at h3; omega
                      · omega))
                (hg4c.imp id (fun h => by omega))
                (by rw [Dk.new_len]; exact hz)
              obtain ⟨R', hmA, hRR⟩ := hmore
              refine (fun hHeld => hK _ _ hHeld ?_) (trivial)
              clear hK
              try simp only [Act.put, List.setIfInBounds_toArray, List.set_cons_zero, List.set_cons_succ]
              refine wpAnyH_done (by kernel_rfl) ?_ _
              have HX : Hid (IsRef w5 g R' (Dk.new (j + 1)) ∧ Keeps Nil w w5 ∧ ∀ k, R' k ≠ 0 → w.heap.size ≤ k) := by
                refine Lib.hid ⟨by rw [Dk.new_succ]; exact hmA.is, ?_, fun k hk => ?_⟩
                · refine (((hkj.out.trans HKD.out).trans hKw).step qk4 (fun x hx => .inr (hf.out x (by rw [hrole x hx]; decide)))).step hks (fun x hx => .inr (hf.out x (by rw [show x = g from hx, hgR]; decide)))
                · rcases Nat.lt_or_ge k v0.heap.size with h | h
                  · rw [hRR k h] at hk; exact hf.out k hk
                  · have := hkj.out.size; have := HKD.out.size; omega
              clear hmA hRR hz hks hcl4 hfz4 hb4 ho4 qk4 hf4 hown hb6 hb7 hb1 c0 hg1v hg6v hg16 hrole hgn hg4c hlt1 hlt6 hv3 hgR hgv hgl hKw hna
              go_wp2_with fail
              exact ⟨⟨j + 1, R', by go_num, by omega, Lib.hid HX.out.1, Lib.hid HX.out.2.1, Lib.hid HX.out.2.2⟩, by first | (simp [intOf]; done) | (simp [intOf]; omega)⟩
            · skip
              refine step_bsK rfl 83 25 1 _ rfl [.slice (some ⟨g1, 0, none⟩) 128 128] Tryd.underlying83 Tryd.bsSls rfl (by decide) (by decide) (by simp [Act.eval]) (by simp [Value.cells]) ?_
              intro g6 w6 hg6 hb6 qk
              have hg6v : v0.heap.size ≤ g6 := by have := hKw.size; omega
              have hg16 : g1 < g6 := by have := hb1.lt; omega
              clear hg6
              refine (fun hHeld => hK _ _ hHeld ?_) (trivial)
              clear hK
              try simp only [Act.put, List.setIfInBounds_toArray, List.set_cons_zero, List.set_cons_succ]
              replace hKw := hKw.trans qk
              replace hb1 := hb1.keep0 qk
              refine bothL (i := 4) (j := 7) rfl rfl (by kernel_rfl) (fun K hK => ?_) (fun K hK => ?_)
              · skip
                have c0x := hKw.cell c0 (fun h => h)
                go_simp
                clear c0x
                refine (fun hHeld => hK _ _ hHeld ?_) (trivial)
                clear hK
                try simp only [Act.put, List.setIfInBounds_toArray, List.set_cons_zero, List.set_cons_succ]
                refine onlyL (i := 7) rfl (by kernel_rfl) (fun K hK => ?_)
                refine step_bsK rfl 54 83 1 _ rfl [.slice (some ⟨g6, 0, none⟩) 1 1] Tryd.underlying54 Tryd.bsSls2 rfl (by decide) (by decide) (by simp [Act.eval]) (by simp [Value.cells]) ?_
                intro g7 w3 hg7 hb7 qk
                clear hg7
                refine (fun hHeld => hK _ _ hHeld ?_) (trivial)
                clear hK
                try simp only [Act.put, List.setIfInBounds_toArray, List.set_cons_zero, List.set_cons_succ]
                replace hKw := hKw.trans qk
                replace hb1 := hb1.keep0 qk
                replace hb6 := hb6.keep0 qk
                have hown := HA.out.own.keep0 hKw
                rw [Dk.new_len] at hown
                refine onlyL (i := 8) rfl (by kernel_rfl) (fun K hK => ?_)
                refine step_appendO rfl _ _ 54 rfl 83 1 24 Tryd.underlying54 Tryd.infoSls2 (by omega) a cap j tab rfl hown (some ⟨g7, 0, none⟩) 1 1 [.slice (some ⟨g6, 0, none⟩) 1 1] rfl (Src.one hb7 rfl) (by unfold maxLen; omega) (by omega) ?_
                intro a4 cap4 w4 ho4 qk4 hf4
                obtain ⟨g4, hg4, _, _⟩ := ho4.some (by omega)
                subst hg4
                have hrole : ∀ k, blkOf a k → R k = 3 := HA.out.role
                have hgn : ¬ blkOf a g := fun e => by have h1 := hrole g e; have := HA.out.me; omega
                have hb4 : Blk w4 g [.slice a (Dk.new j).vs.length cap, .int .i64 (-1), .bool false] 56 := (HA.out.obj.keep0 hKw).keep qk4 hgn
                have hcl4 := hb4.cell 0 rfl
                have hfz4 := hb4.frozen 0
                refine (fun hHeld => hK _ _ hHeld ?_) (trivial)
                clear hK
                try simp only [Act.put, List.setIfInBounds_toArray, List.set_cons_zero, List.set_cons_succ]
                refine takeL (i := 9) (v := _) rfl (by kernel_rfl) (by kernel_rfl) (by kernel_rfl) (fun _ _ _ h => h) (Or.inl ⟨by rfl, by intro w hSw; (try dsimp only at hSw); go_simp; try with_reducible rfl⟩) (by assumption) ?_
                try simp only [Act.put, List.setIfInBounds_toArray, List.set_cons_zero, List.set_cons_succ]
                refine takeL (i := 10) (v := _) rfl (by kernel_rfl) (by kernel_rfl) (by kernel_rfl) (fun _ _ _ h => h) (Or.inl ⟨by rfl, by intro w hSw; (try dsimp only at hSw); go_simp; try with_reducible rfl⟩) (by assumption) ?_
                try simp only [Act.put, List.setIfInBounds_toArray, List.set_cons_zero, List.set_cons_succ]
                refine onlyL (i := 11) rfl (by kernel_rfl) (fun K hK => ?_)
                refine step_storeS rfl 54 Tryd.sizeSls3 _ _ rfl g 0 rfl (some ⟨g4, 0, none⟩) (j + 1) cap4 rfl hcl4 hfz4 ?_
                have hz := hb4.set 0 (.slice (some ⟨g4, 0, none⟩) (j + 1) cap4)
                have hks : Keeps (One g) w4 (w4.setCell ⟨g, 0, none⟩ (.slice (some ⟨g4, 0, none⟩) (j + 1) cap4)) := (Keeps.refl _ _).setOne _ _
                generalize w4.setCell ⟨g, 0, none⟩ (.slice (some ⟨g4, 0, none⟩) (j + 1) cap4) = w5 at *
                have hlt1 := hb1.lt
                have hlt6 := hb6.lt
                have hv3 := hKw.size
                have hg4c : R g4 = 3 ∨ g4 = w3.heap.size := (hf4 g4 ((blkOf_some _ _ _ _).2 rfl)).imp (hrole g4) id
                have hgR : R g = 2 := HA.out.me
                have hgv : g < v0.heap.size := HA.out.obj.lt
                have hna : ∀ x, v0.heap.size ≤ x → ¬ blkOf a x := fun x hx e => by have := HA.out.own.lt x e; omega
                have hmore := HA.out.more (w' := w5) (g1 := g1) (c1 := 128) (g6 := g6) (b := zsec) (ga := g4) (cap' := cap4) (by omega) (by omega) (by omega) (by have := qk4.size; have := hks.size; omega)
                  (((byteV_zsec ▸ hb1 : Blk w3 g1 (byteV zsec) 5).keep qk4 (hna g1 hg1v)).keep hks (fun e => by have : g1 = g := e; omega) |>.row8 zsec_bytes zsec_len (by omega))
                  ((hb6.keep qk4 (hna g6 hg6v)).keep hks (fun e => by have : g6 = g := e; omega))
                  ((hKw.nil.step qk4 (fun x hx => .inl (.inr (hrole x hx)))).step hks (fun x hx => .inl (.inl (by rw [show x = g from hx]; exact hgR))))
                  (by rw [Dk.new_len]; exact ho4.keep hks (fun x hx e => by
                        have h1 := (blkOf_some _ _ _ _).1 hx
                        have h2 : x = g := e
                        rcases hg4c with h3 | h3
                        · rw [← h1, h2] at h3; omega
                        · omega))
                  (hg4c.imp id (fun h => by omega))
                  (by rw [Dk.new_len]; exact hz)
                obtain ⟨R', hmA, hRR⟩ := hmore
                refine (fun hHeld => hK _ _ hHeld ?_) (trivial)
                clear hK
                try simp only [Act.put, List.setIfInBounds_toArray, List.set_cons_zero, List.set_cons_succ]
                refine wpAnyH_done (by kernel_rfl) ?_ _
                have HX : Hid (IsRef w5 g R' (Dk.new (j + 1)) ∧ Keeps Nil w w5 ∧ ∀ k, R' k ≠ 0 → w.heap.size ≤ k) := by
                  refine Lib.hid ⟨by rw [Dk.new_succ]; exact hmA.is, ?_, fun k hk => ?_⟩
                  · refine (((hkj.out.trans HKD.out).trans hKw).step qk4 (fun x hx => .inr (hf.out x (by rw [hrole x hx]; decide)))).step hks (fun x hx => .inr (hf.out x (by rw [show x = g from hx, hgR]; decide)))
                  · rcases Nat.lt_or_ge k v0.heap.size with h | h
                    · rw [hRR k h] at hk; exact hf.out k hk
                    · have := hkj.out.size; have := HKD.out.size; omega
                clear hmA hRR hz hks hcl4 hfz4 hb4 ho4 qk4 hf4 hown hb6 hb7 hb1 c0 hg1v hg6v hg16 hrole hgn hg4c hlt1 hlt6 hv3 hgR hgv hgl hKw hna
                go_wp2_with fail
                exact ⟨⟨j + 1, R', by go_num, by omega, Lib.hid HX.out.1, Lib.hid HX.out.2.1, Lib.hid HX.out.2.2⟩, by first | (simp [intOf]; done) | (simp [intOf]; omega)⟩
              · skip
                refine step_bsK rfl 54 83 1 _ rfl [.slice (some ⟨g6, 0, none⟩) 1 1] Tryd.underlying54 Tryd.bsSls2 rfl (by decide) (by decide) (by simp [Act.eval]) (by simp [Value.cells]) ?_
                intro g7 w3 hg7 hb7 qk
                clear hg7
                refine (fun hHeld => hK _ _ hHeld ?_) (trivial)
                clear hK
                try simp only [Act.put, List.setIfInBounds_toArray, List.set_cons_zero, List.set_cons_succ]
                replace hKw := hKw.trans qk
                replace hb1 := hb1.keep0 qk
                replace hb6 := hb6.keep0 qk
                refine onlyL (i := 4) rfl (by kernel_rfl) (fun K hK => ?_)
                have c0x := hKw.cell c0 (fun h => h)
                go_simp
                clear c0x
                refine (fun hHeld => hK _ _ hHeld ?_) (trivial)
                clear hK
                try simp only [Act.put, List.setIfInBounds_toArray, List.set_cons_zero, List.set_cons_succ]
                have hown := HA.out.own.keep0 hKw
                rw [Dk.new_len] at hown
                refine onlyL (i := 8) rfl (by kernel_rfl) (fun K hK => ?_)
                refine step_appendO rfl _ _ 54 rfl 83 1 24 Tryd.underlying54 Tryd.infoSls2 (by omega) a cap j tab rfl hown (some ⟨g7, 0, none⟩) 1 1 [.slice (some ⟨g6, 0, none⟩) 1 1] rfl (Src.one hb7 rfl) (by unfold maxLen; omega) (by omega) ?_
                intro a4 cap4 w4 ho4 qk4 hf4
                obtain ⟨g4, hg4, _, _⟩ := ho4.some (by omega)
                subst hg4
                have hrole : ∀ k, blkOf a k → R k = 3 := HA.out.role
                have hgn : ¬ blkOf a g := fun e => by have h1 := hrole g e; have := HA.out.me; omega
                have hb4 : Blk w4 g [.slice a (Dk.new j).vs.length cap, .int .i64 (-1), .bool false] 56 := (HA.out.obj.keep0 hKw).keep qk4 hgn
                have hcl4 := hb4.cell 0 rfl
                have hfz4 := hb4.frozen 0
                refine (fun hHeld => hK _ _ hHeld ?_) (trivial)
                clear hK
                try simp only [Act.put, List.setIfInBounds_toArray, List.set_cons_zero, List.set_cons_succ]
                refine takeL (i := 9) (v := _) rfl (by kernel_rfl) (by kernel_rfl) (by kernel_rfl) (fun _ _ _ h => h) (Or.inl ⟨by rfl, by intro w hSw; (try dsimp only at hSw); go_simp; try with_reducible rfl⟩) (by assumption) ?_
                try simp only [Act.put, List.setIfInBounds_toArray, List.set_cons_zero, List.set_cons_succ]
                refine takeL (i := 10) (v := _) rfl (by kernel_rfl) (by kernel_rfl) (by kernel_rfl) (fun _ _ _ h => h) (Or.inl ⟨by rfl, by intro w hSw; (try dsimp only at hSw); go_simp; try with_reducible rfl⟩) (by assumption) ?_
                try simp only [Act.put, List.setIfInBounds_toArray, List.set_cons_zero, List.set_cons_succ]
                refine onlyL (i := 11) rfl (by kernel_rfl) (fun K hK => ?_)
                refine step_storeS rfl 54 Tryd.sizeSls3 _ _ rfl g 0 rfl (some ⟨g4, 0, none⟩) (j + 1) cap4 rfl hcl4 hfz4 ?_
                have hz := hb4.set 0 (.slice (some ⟨g4, 0, none⟩) (j + 1) cap4)
                have hks : Keeps (One g) w4 (w4.setCell ⟨g, 0, none⟩ (.slice (some ⟨g4, 0, none⟩) (j + 1) cap4)) := (Keeps.refl _ _).setOne _ _
                generalize w4.setCell ⟨g, 0, none⟩ (.slice (some ⟨g4, 0, none⟩) (j + 1) cap4) = w5 at *
                have hlt1 := hb1.lt
                have hlt6 := hb6.lt
                have hv3 := hKw.size
                have hg4c : R g4 = 3 ∨ g4 = w3.heap.size := (hf4 g4 ((blkOf_some _ _ _ _).2 rfl)).imp (hrole g4) id
                have hgR : R g = 2 := HA.out.me
                have hgv : g < v0.heap.size := HA.out.obj.lt
                have hna : ∀ x, v0.heap.size ≤ x → ¬ blkOf a x := fun x hx e => by have := HA.out.own.lt x e; omega
                have hmore := HA.out.more (w' := w5) (g1 := g1) (c1 := 128) (g6 := g6) (b := zsec) (ga := g4) (cap' := cap4) (by omega) (by omega) (by omega) (by have := qk4.size; have := hks.size; omega)
                  (((byteV_zsec ▸ hb1 : Blk w3 g1 (byteV zsec) 5).keep qk4 (hna g1 hg1v)).keep hks (fun e => by have : g1 = g := e; omega) |>.row8 zsec_bytes zsec_len (by omega))
                  ((hb6.keep qk4 (hna g6 hg6v)).keep hks (fun e => by have : g6 = g := e; omega))
                  ((hKw.nil.step qk4 (fun x hx => .inl (.inr (hrole x hx)))).step hks (fun x hx => .inl (.inl (by rw [show x = g from hx]; exact hgR))))
                  (by rw [Dk.new_len]; exact ho4.keep hks (fun x hx e => by
                        have h1 := (blkOf_some _ _ _ _).1 hx
                        have h2 : x = g := e
                        rcases hg4c with h3 | h3
                        · rw [← h1, h2] at h3; omega
                        · omega))
                  (hg4c.imp id (fun h => by omega))
                  (by rw [Dk.new_len]; exact hz)
                obtain ⟨R', hmA, hRR⟩ := hmore
                refine (fun hHeld => hK _ _ hHeld ?_) (trivial)
                clear hK
                try simp only [Act.put, List.setIfInBounds_toArray, List.set_cons_zero, List.set_cons_succ]
                refine wpAnyH_done (by kernel_rfl) ?_ _
                have HX : Hid (IsRef w5 g R' (Dk.new (j + 1)) ∧ Keeps Nil w w5 ∧ ∀ k, R' k ≠ 0 → w.heap.size ≤ k) := by
                  refine Lib.hid ⟨by rw [Dk.new_succ]; exact hmA.is, ?_, fun k hk => ?_⟩
                  · refine (((hkj.out.trans HKD.out).trans hKw).step qk4 (fun x hx => .inr (hf.out x (by rw [hrole x hx]; decide)))).step hks (fun x hx => .inr (hf.out x (by rw [show x = g from hx, hgR]; decide)))
                  · rcases Nat.lt_or_ge k v0.heap.size with h | h
                    · rw [hRR k h] at hk; exact hf.out k hk
                    · have := hkj.out.size; have := HKD.out.size; omega
                clear hmA hRR hz hks hcl4 hfz4 hb4 ho4 qk4 hf4 hown hb6 hb7 hb1 c0 hg1v hg6v hg16 hrole hgn hg4c hlt1 hlt6 hv3 hgR hgv hgl hKw hna
                go_wp2_with fail
                exact ⟨⟨j + 1, R', by go_num, by omega, Lib.hid HX.out.1, Lib.hid HX.out.2.1, Lib.hid HX.out.2.2⟩, by first | (simp [intOf]; done) | (simp [intOf]; omega)⟩
        · have hj1 : ¬ ((j : Int) < n) := by have := HN.out; omega
          obtain rfl : j = N := by omega
          have HF := Lib.hid (And.intro hD.out (And.intro hkj.out hf.out))
          go_wp2_with fail
          go_ret
          exact ⟨g, R, rfl, HF.out.1, HF.out.2.1, HF.out.2.2⟩
end Go.Proofs.YtkefbgkdkmkghaaDoor
