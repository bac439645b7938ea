/-
  The document's slots: Save.
-/
import Derived.Test.YtkefbgkdkmkghaaDoorRefSl3
namespace Go.Proofs.YtkefbgkdkmkghaaDoor
set_option linter.unusedSimpArgs false
set_option linter.unusedVariables false
open Go.RowKit

/-- What the document's Save leaves. -/
def RSaveP (w : World) (q g : Nat) (Q : Roles) (r : Dk × Sv × Option Nat) (e : Ending) (w' : World) : Prop :=
  ∃ Q', e = .returned (.int .i64 (codeO r.2.2)) ∧ IsRef w' q Q' r.1 ∧ RSlAt w' g q r.2.1 ∧ Q' g = 0 ∧ Keeps (fun k => Wr Q k ∨ k = g) w w' ∧ ∀ k, k < w.heap.size → Q' k = Q k
theorem RSaveP.mk' {w wx w' : World} {q g : Nat} {Q : Roles} {d : Dk} {s : Sv} {b : List Int} {r : Dk × Sv × Option Nat} {e : Ending} (h : d.save s b = r) (Q1 : Roles) (he : e = .returned (.int .i64 (codeO r.2.2))) (hD : IsRef w' q Q1 r.1) (hs : RSlAt w' g q r.2.1) (hg : Q1 g = 0) (hk : Keeps Nil w wx) (hG : Grew wx w' Q Q1) :
    RSaveP w q g Q (d.save s b) e w' := by
  rw [h]
  exact ⟨Q1, he, hD, hs, hg, (hk.nil.trans hG.keeps).mono (fun k h => .inl h), fun k hk' => hG.same k (Nat.lt_of_lt_of_le hk' hk.size)⟩
theorem puts_head (D : Dk) (s : Sv) : D.puts 0 (headL s) = if (D.write ((0 : Nat) : Int) (headL s)).2 = none then (D.write ((0 : Nat) : Int) (headL s)).1.sync else D.write ((0 : Nat) : Int) (headL s) := by
  have hs : secsL (headL s) = [headL s] := by
    unfold secsL
    rw [headL_len, show takesN 128 = 1 from rfl]
    show [secL (chunkL (headL s) 0)] = _
    have h1 : chunkL (headL s) 0 = headL s := by
      unfold chunkL
      rw [Nat.zero_mul, List.drop_zero, List.take_of_length_le (by rw [headL_len]; exact Nat.le_refl _)]
    rw [h1]
    unfold secL
    rw [headL_len, Nat.sub_self, List.replicate_zero, List.append_nil]
  unfold Dk.puts
  rw [hs]
  have hw : D.writes 0 [headL s] = D.write ((0 : Nat) : Int) (headL s) := by
    unfold Dk.writes
    by_cases h : (D.write ((0 : Nat) : Int) (headL s)).2 = none
    · rw [if_pos h, Prod.ext_iff]; exact ⟨rfl, h.symm⟩
    · rw [if_neg h]
  rw [hw]
theorem secs_zero {m i : Nat} (h : i < takesN m) : secL (chunkL (List.replicate m 0) i) = zsec := by
  unfold takesN at h
  unfold secL chunkL zsec
  rw [List.drop_replicate, List.take_replicate, List.length_replicate, List.replicate_append_replicate]
  congr 1
  omega
theorem secsZ_take {m j : Nat} (h : j < takesN m) : (secsL (List.replicate m 0)).take (j + 1) = (secsL (List.replicate m 0)).take j ++ [zsec] := by
  rw [secsL_take (by rw [List.length_replicate]; exact h), secs_zero h]
theorem secsZ_len (m : Nat) : (secsL (List.replicate m 0)).length = takesN m := by rw [secsL_len, List.length_replicate]
theorem secsZ_bytes {m : Nat} : ∀ x ∈ secsL (List.replicate m 0), AreB x := fun x hx => (secsL_mem (fun y hy => by rw [List.eq_of_mem_replicate hy]; omega) x hx).1
theorem Tryd.zeroRSlots (w : World) : (zeroValue 78).run Tryd.prog w = .ok (.agg [.pointer none, .int .i64 0, .int .i64 0, .int .i64 0].toArray) w := by kernel_rfl
theorem Tryd.sizeRSlots : (Tryd.prog.info? 78).map (·.size) = some 4 := by kernel_rfl
set_option maxRecDepth 20000 in
set_option maxHeartbeats 6400000 in
theorem refsave_walk {w : World} {q g : Nat} {Q : Roles} {d : Dk} {s : Sv} (hD : IsRef w q Q d) (hs : RSlAt w g q s) (hg : Q g = 0) {m : Nat} (hok : d.Ok m) (hm1 : 1 ≤ m) (hm : m ≤ 90000) (h1 : 1 ≤ d.vs.length) (hh : s.half ≤ 1) (hmy : s.many ≤ d.room) (hz : s.seq = 0 → s.many = 0) (hsb : s.seq ≤ 4294967295)
    {ab : Option Addr} {n cb : Nat} {b : List Int} (hb : Row .u8 w ab n b) (hnc : n ≤ cb) (hcx : cb ≤ 9223372036854775807) (hbQ : 0 < n → ∀ k, blkOf ab k → Q k = 0) :
    Calls Tryd.prog 45 #[.pointer (some ⟨g, 0, none⟩), .slice ab n cb] w (RSaveP w q g Q (d.save s b)) := by
  have hl := hb.llen
  have h4 := hok.size
  have hro : d.room ≤ 25600 := by unfold Dk.room Dk.each; omega
  have HD := Lib.hid hD
  have HSL := Lib.hid hs
  have HG0 := Lib.hid hg
  have HOK := Lib.hid hok
  have HRB := Lib.hid hb
  have HBQ := Lib.hid hbQ
  have HBY := Lib.hid (wf_areB hb.wf)
  have HBL : Hid (b.length = n) := Lib.hid hl
  have HL := Lib.hid (And.intro h1 (And.intro h4 (And.intro hmy hro)))
  have HC0 : Hid (codeO none = 0) := Lib.hid rfl
  have HZ := Lib.hid hz
  have HRW := Lib.hid (refroom_walk hD hs h1 h4)
  obtain ⟨RM, hRM⟩ : ∃ RM, RM = d.room := ⟨_, rfl⟩
  rw [← hRM] at HRW
  have hRb : RM ≤ 25600 := by omega
  have HRM := Lib.hid hRM
  obtain ⟨sq, hsq⟩ : ∃ x, x = s.seq := ⟨_, rfl⟩
  have HSQ := Lib.hid hsq
  have c0 := Blk.cell hs 0 rfl
  have c1 := Blk.cell hs 1 rfl
  have hsqb : sq ≤ 4294967295 := by omega
  rw [← hsq] at c1
  clear hD hs hg hok hb hbQ hl h1 h4 hmy hro hRM hsq hz hsb
  go_enter Tryd.func45, Tryd.ntmps45
  go_wp2_with fail
  refine HRW.out.mono ?_
  rintro e w1 ⟨rfl, rfl⟩
  clear HRW
  by_cases hfu : RM < n
  · have hfi : (RM : Int) < n := by omega
    have HSV := Lib.hid (save_full (d := d) (s := s) (b := b) (.inl (by rw [HBL.out, ← HRM.out]; exact hfu)))
    go_wp2_with fail
    go_ret
    show RSaveP w q g Q (d.save s b) _ _
    rw [HSV.out]
    exact ⟨Q, rfl, HD.out, HSL.out, HG0.out, Keeps.refl _ _, fun _ _ => rfl⟩
  · have hfi : ¬ (RM : Int) < n := by omega
    by_cases hof : 4294967295 ≤ sq
    · obtain rfl : sq = 4294967295 := by omega
      have HSV := Lib.hid (save_full (d := d) (s := s) (b := b) (.inr (by rw [← HSQ.out]; exact hof)))
      go_wp2_with fail
      go_ret
      show RSaveP w q g Q (d.save s b) _ _
      rw [HSV.out]
      exact ⟨Q, rfl, HD.out, HSL.out, HG0.out, Keeps.refl _ _, fun _ _ => rfl⟩
    · have hoi : ((sq : Int) == 4294967295) = false := by rw [beq_eq_false_iff_ne]; omega
      have hwq : IntKind.i64.wrap ((sq : Int) + 1) = ((sq + 1 : Nat) : Int) := by rw [IntKind.wrap_i64]; omega
      go_upto_region 3 with fail
      refine wp_region_held_drew (S := fun w' => w'.cell? ⟨g, 0, none⟩ = some (.pointer (some ⟨q, 0, none⟩)) ∧ w'.cell? ⟨g, 1, none⟩ = some (.int .i64 sq)) (by kernel_rfl) ⟨c0, c1⟩ (fun hHeld => ?_)
      have hkd : Keeps Nil w w.drew := (Keeps.refl Nil w).drew
      have HKd := Lib.hid hkd
      have HH0 := Lib.hid hHeld
      clear hkd c0 c1
      generalize w.drew = v0 at *
      refine takeL (i := 0) (v := _) rfl (by kernel_rfl) (by kernel_rfl) (by kernel_rfl) (fun _ _ _ h => h) (Or.inl ⟨by rfl, by intro w hSw; (try dsimp only at hSw); go_simp; try with_reducible rfl⟩) (by assumption) ?_
      try simp only [Act.put, List.setIfInBounds_toArray, List.set_cons_zero, List.set_cons_succ]
      refine takeL (i := 1) (v := _) rfl (by kernel_rfl) (by kernel_rfl) (by kernel_rfl) (fun _ _ _ h => h) (Or.inl ⟨by rfl, by intro w hSw; (try dsimp only at hSw); go_simp; try with_reducible rfl⟩) (by assumption) ?_
      try simp only [Act.put, List.setIfInBounds_toArray, List.set_cons_zero, List.set_cons_succ]
      refine takeL (i := 2) (v := _) rfl (by kernel_rfl) (by kernel_rfl) (by kernel_rfl) (fun _ _ _ h => h) (Or.inl ⟨by rfl, by intro w hSw; (try dsimp only at hSw); go_simp; try with_reducible rfl⟩) (by assumption) ?_
      try simp only [Act.put, List.setIfInBounds_toArray, List.set_cons_zero, List.set_cons_succ]
      refine takeL (i := 3) (v := _) rfl (by kernel_rfl) (by kernel_rfl) (by kernel_rfl) (fun _ _ _ h => h) (Or.inl ⟨by rfl, by intro w hSw; (try dsimp only at hSw); go_simp; try with_reducible rfl⟩) (by assumption) ?_
      try simp only [Act.put, List.setIfInBounds_toArray, List.set_cons_zero, List.set_cons_succ]
      refine takeL (i := 4) (v := _) rfl (by kernel_rfl) (by kernel_rfl) (by kernel_rfl) (fun _ _ _ h => h) (Or.inl ⟨by rfl, by intro w hSw; (try dsimp only at hSw); go_simp; try with_reducible rfl⟩) (by assumption) ?_
      try simp only [Act.put, List.setIfInBounds_toArray, List.set_cons_zero, List.set_cons_succ]
      refine takeL (i := 5) (v := _) rfl (by kernel_rfl) (by kernel_rfl) (by kernel_rfl) (fun _ _ _ h => h) (Or.inl ⟨by rfl, by intro w hSw; (try dsimp only at hSw); go_simp; try with_reducible rfl⟩) (by assumption) ?_
      try simp only [Act.put, List.setIfInBounds_toArray, List.set_cons_zero, List.set_cons_succ]
      refine takeL (i := 6) (v := _) rfl (by kernel_rfl) (by kernel_rfl) (by kernel_rfl) (fun _ _ _ h => h) (Or.inl ⟨by rfl, by intro w hSw; (try dsimp only at hSw); go_simp; try with_reducible rfl⟩) (by assumption) ?_
      try simp only [Act.put, List.setIfInBounds_toArray, List.set_cons_zero, List.set_cons_succ]
      refine takeL (i := 7) (v := _) rfl (by kernel_rfl) (by kernel_rfl) (by kernel_rfl) (fun _ _ _ h => h) (Or.inl ⟨by rfl, by intro w hSw; (try dsimp only at hSw); go_simp; try with_reducible rfl⟩) (by assumption) ?_
      try simp only [Act.put, List.setIfInBounds_toArray, List.set_cons_zero, List.set_cons_succ]
      refine takeL (i := 8) (v := _) rfl (by kernel_rfl) (by kernel_rfl) (by kernel_rfl) (fun _ _ _ h => h) (Or.inl ⟨by rfl, by intro w hSw; (try dsimp only at hSw); go_simp; try with_reducible rfl⟩) (by assumption) ?_
      try simp only [Act.put, List.setIfInBounds_toArray, List.set_cons_zero, List.set_cons_succ]
      refine takeL (i := 9) (v := _) rfl (by kernel_rfl) (by kernel_rfl) (by kernel_rfl) (fun _ _ _ h => h) (Or.inl ⟨by rfl, by intro w hSw; (try dsimp only at hSw); go_simp; try with_reducible rfl⟩) (by assumption) ?_
      try simp only [Act.put, List.setIfInBounds_toArray, List.set_cons_zero, List.set_cons_succ]
      refine takeL (i := 10) (v := _) rfl (by kernel_rfl) (by kernel_rfl) (by kernel_rfl) (fun _ _ _ h => h) (Or.inl ⟨by rfl, by intro w hSw; (try dsimp only at hSw); go_simp; try with_reducible rfl⟩) (by assumption) ?_
      try simp only [Act.put, List.setIfInBounds_toArray, List.set_cons_zero, List.set_cons_succ]
      refine takeL (i := 11) (v := _) rfl (by kernel_rfl) (by kernel_rfl) (by kernel_rfl) (fun _ _ _ h => h) (Or.inl ⟨by rfl, by intro w hSw; (try dsimp only at hSw); go_simp; try with_reducible rfl⟩) (by assumption) ?_
      try simp only [Act.put, List.setIfInBounds_toArray, List.set_cons_zero, List.set_cons_succ]
      refine onlyL (i := 12) rfl (by kernel_rfl) (fun K hK => ?_)
      go_simp
      have hSA : RSlAt (v0.alloc (.cells #[.pointer (some ⟨q, 0, none⟩), .int .i64 ((sq : Int) + 1), .int .i64 0, .int .i64 (n : Int)] 78)) v0.heap.size q ⟨sq + 1, 0, n⟩ := by
        have := Blk.new v0 [.pointer (some ⟨q, 0, none⟩), .int .i64 ((sq : Int) + 1), .int .i64 0, .int .i64 (n : Int)] 78
        unfold RSlAt
        rw [show (((⟨sq + 1, 0, n⟩ : Sv).seq : Nat) : Int) = (sq : Int) + 1 from by simp]
        exact this
      have hkA : Keeps Nil v0 (v0.alloc (.cells #[.pointer (some ⟨q, 0, none⟩), .int .i64 ((sq : Int) + 1), .int .i64 0, .int .i64 (n : Int)] 78)) := (Keeps.refl _ _).alloc _
      generalize v0.alloc (.cells #[.pointer (some ⟨q, 0, none⟩), .int .i64 ((sq : Int) + 1), .int .i64 0, .int .i64 (n : Int)] 78) = wA at *
      have hvg : w.heap.size ≤ v0.heap.size := HKd.out.size
      obtain ⟨gn, hgn⟩ : ∃ x, v0.heap.size = x := ⟨_, rfl⟩
      rw [hgn] at hSA hvg
      have HNA := Lib.hid hSA
      have HKA := Lib.hid (HKd.out.trans hkA)
      rw [hgn]
      clear hSA hgn
      refine (fun hHeld => hK _ _ hHeld ?_) (⟨hkA.cell HH0.out.1 (fun h => h), hkA.cell HH0.out.2 (fun h => h)⟩)
      clear hK
      try simp only [Act.put, List.setIfInBounds_toArray, List.set_cons_zero, List.set_cons_succ]
      refine takeL (i := 13) (v := _) rfl (by kernel_rfl) (by kernel_rfl) (by kernel_rfl) (fun _ _ _ h => h) (Or.inl ⟨by rfl, by intro w hSw; (try dsimp only at hSw); go_simp; try with_reducible rfl⟩) (by assumption) ?_
      try simp only [Act.put, List.setIfInBounds_toArray, List.set_cons_zero, List.set_cons_succ]
      refine wpAnyH_done (by kernel_rfl) ?_ _
      have hgnQ : Q gn = 0 := by
        rcases Nat.eq_zero_or_pos (Q gn) with h | h
        · exact h
        · have := HD.out.lt gn (by omega); omega
      have HGN := Lib.hid hgnQ
      have hgng : gn ≠ g := by have := HSL.out.lt; omega
      have HSA := Lib.hid (HSL.out.keep HKA.out (fun h => h))
      have c1 := Blk.cell HSA.out 1 rfl
      rw [← HSQ.out] at c1
      have c2s := Blk.cell HSA.out 2 rfl
      have c2n := Blk.cell HNA.out 2 rfl
      have z2n := Blk.frozen HNA.out 2
      have HNF : Hid (¬ (d.room < b.length ∨ 4294967295 ≤ s.seq)) := Lib.hid (by rw [HBL.out, ← HRM.out, ← HSQ.out]; omega)
      obtain ⟨nx, hnx⟩ : ∃ x, x = nextSv s b.length := ⟨_, rfl⟩
      have HNXE := Lib.hid hnx
      have HNB : Hid (nx.seq ≤ 4294967295 ∧ nx.half ≤ 1 ∧ nx.many = n) := Lib.hid (by
        rw [hnx, HBL.out]
        unfold nextSv
        refine ⟨by show s.seq + 1 ≤ _; rw [← HSQ.out]; omega, ?_, rfl⟩
        show (if 0 < s.seq then 1 - s.half else 0) ≤ 1
        split <;> omega)
      clear hkA hgnQ HH0 hHeld
      go_upto_if 41 with fail
      generalize hzb : decide (0 < sq) = zb
      have HZB := Lib.hid hzb
      clear hzb
      go_cut [] from 42 to 49 (fun wx => Hid (RSlAt wx gn q nx ∧ Keeps Nil w wx))
      case first =>
        cases zb with
        | true =>
          have hnx2 : nx = ⟨sq + 1, 1 - s.half, n⟩ := by rw [hnx, HBL.out]; unfold nextSv; rw [← HSQ.out, if_pos (of_decide_eq_true HZB.out)]
          have hhi : ((1 - s.half : Nat) : Int) = 1 - (s.half : Int) := by omega
          have HNA2 := Lib.hid (show RSlAt (wA.setCell ⟨gn, 2, none⟩ (.int .i64 (1 - (s.half : Int)))) gn q nx from by
            have := HNA.out.set 2 (.int .i64 (1 - (s.half : Int)))
            rw [hnx2]
            unfold RSlAt
            rw [show (((⟨sq + 1, 1 - s.half, n⟩ : Sv).half : Nat) : Int) = 1 - (s.half : Int) from hhi]
            exact this)
          have HKA2 : Hid (Keeps Nil w (wA.setCell ⟨gn, 2, none⟩ (.int .i64 (1 - (s.half : Int))))) := Lib.hid (HKA.out.setCell (.inr hvg) _)
          clear hnx hnx2 hhi
          go_wp2_with fail
          go_meet
          exact Lib.hid ⟨HNA2.out, HKA2.out⟩
        | false =>
          have hnx2 : nx = ⟨sq + 1, 0, n⟩ := by rw [hnx, HBL.out]; unfold nextSv; rw [← HSQ.out, if_neg (of_decide_eq_false HZB.out)]
          have HNX := Lib.hid (And.intro (hnx2 ▸ HNA.out : RSlAt wA gn q nx) HKA.out)
          clear hnx hnx2
          go_wp2_with fail
          go_meet
          exact HNX
      case rest =>
      obtain ⟨hNx, hKx⟩ := hcut.out
      have HNX := Lib.hid hNx
      have HKX := Lib.hid hKx
      have HDX := Lib.hid (HD.out.keep0 hKx)
      have HSX := Lib.hid (HSL.out.keep hKx (fun h => h))
      have HRX := Lib.hid (HRB.out.keep hKx)
      clear hNx hKx hcut c1 c2s c2n z2n HNA HKA HSA hnx
      have he : d.each ≤ 200 := by unfold Dk.each; have := HL.out.2.1; omega
      have hmm : nx.half * d.each ≤ 1 * 200 := Nat.mul_le_mul HNB.out.2.1 he
      have hmo : s.half * d.each ≤ 1 * 200 := Nat.mul_le_mul hh he
      obtain ⟨N, hN⟩ : ∃ N, N = d.each := ⟨_, rfl⟩
      obtain ⟨M, hM⟩ : ∃ M, M = nx.half * d.each := ⟨_, rfl⟩
      obtain ⟨M0, hM0⟩ : ∃ M, M = s.half * d.each := ⟨_, rfl⟩
      obtain ⟨hv, hhv⟩ : ∃ hv, hv = nx.half := ⟨_, rfl⟩
      have hx : (hv : Int) * (N : Int) = (M : Int) := by rw [hM, hN, hhv]; simp
      obtain ⟨F, hF⟩ : ∃ F, F = d.first nx.half := ⟨_, rfl⟩
      have hFM : F = 1 + M := by rw [hF, hM]; rfl
      have HFM := Lib.hid hFM
      have hhw := fun (w' : World) (Q' : Roles) (d' : Dk) (s' : Sv) (hl : d'.vs.length = d.vs.length) (hD' : IsRef w' q Q' d') (hS' : RSlAt w' g q s') => show Calls Tryd.prog 62 #[.pointer (some ⟨g, 0, none⟩)] w' (fun e w'' => e = .returned (.int .i64 N) ∧ w' = w'') from by
        have h := half_walk hD' hS' (by rw [hl]; exact HL.out.1) (by rw [hl]; exact HL.out.2.1)
        rw [show d'.each = N by rw [hN]; unfold Dk.each; rw [hl]] at h
        exact h
      have HHW := Lib.hid hhw
      have HTK := Lib.hid (fun w => need_walk n w (by omega))
      obtain ⟨T, hT⟩ : ∃ T, T = takesN n := ⟨_, rfl⟩
      have hTb : (T : Nat) * 128 < n + 128 ∧ n ≤ T * 128 := by rw [hT]; unfold takesN; omega
      rw [← hT] at HTK
      have HTN : Hid (takesN b.length = T) := Lib.hid (by rw [hT, HBL.out])
      rw [← hM] at hmm
      rw [← hM0] at hmo
      have hwM : IntKind.i64.wrap (M : Int) = (M : Int) := by rw [IntKind.wrap_i64]; omega
      have hw1 : IntKind.i64.wrap (1 + (M : Int)) = 1 + (M : Int) := by rw [IntKind.wrap_i64]; omega
      have HFF := Lib.hid hF
      have HHV := Lib.hid hhv
      have HNN := Lib.hid (And.intro hN hM0)
      clear hhw hT hN hM hM0 hF hhv he hFM
      go_wp2_with fail
      go_loopw [6, 7, 8] (fun x _ _ wr => ∃ (j : Nat) (Q' : Roles), x = .int .i64 j ∧ j ≤ T ∧ Hid (IsRef wr q Q' (d.writes F ((secsL b).take j)).1) ∧ Hid ((d.writes F ((secsL b).take j)).2 = none) ∧ Hid (Grew wc wr Q Q')) (fun x _ _ _ => T - (intOf x).toNat)
      case atStart => exact ⟨0, Q, rfl, Nat.zero_le _, HDX, Lib.hid rfl, Lib.hid (Grew.refl _ _)⟩
      case round =>
        obtain ⟨j, Q', rfl, hj, hDj, hNj, hGj⟩ := hrel
        obtain ⟨wo, hwo⟩ : ∃ x, x = wr := ⟨_, rfl⟩
        subst hwo
        go_wp2_with fail
        refine (HTK.out wo).mono ?_
        rintro e w2 ⟨rfl, rfl⟩
        by_cases hjT : j < T
        · have hj1 : (j : Int) < T := by omega
          have hj0 : (0 : Int) ≤ j := by omega
          obtain ⟨J, hJ⟩ : ∃ J, J = j * 128 := ⟨_, rfl⟩
          have hJn : J < n := by
            have : j * 128 + 128 ≤ T * 128 := by omega
            omega
          have hJi : (j : Int) * 128 = (J : Int) := by omega
          have hJ2 : ((j : Int) + 1) * 128 = ((J + 128 : Nat) : Int) := by omega
          have hcJ : ¬ cb = J := by omega
          have hrw := HRX.out.keepN hGj.out.keeps (fun h0 k hk => wr_not (HBQ.out h0 k hk))
          obtain ⟨gb, off, ha, hgl, _⟩ := hrw.cell (by omega)
          subst ha
          have HOKJ := Lib.hid (show (d.writes F ((secsL b).take j)).1.Ok 100500 from (writes_ok _ F HOK.out (fun x hx => (secsL_mem HBY.out x (List.mem_of_mem_take hx)).1)).mono (by rw [List.length_take, secsL_len, HTN.out]; omega))
          obtain ⟨Fj, hFj⟩ : ∃ x, x = F + j := ⟨_, rfl⟩
          have hfj : IntKind.i64.wrap (1 + (M : Int) + (j : Int)) = (Fj : Int) := by have hFM := HFM.out; rw [hFj, show 1 + (M : Int) + j = ((F + j : Nat) : Int) by omega]; exact IntWalk.i64_in _ (by omega)
          have HBB := Lib.hid (chunk_bytes HBY.out j)
          have hsn := writes_snoc ((secsL b).take j) d F (secL (chunkL b j))
          rw [hNj.out, if_pos rfl, List.length_take, secsL_len, Nat.min_eq_left (by rw [HTN.out]; omega), ← secsL_take (by rw [HTN.out]; omega), ← hFj] at hsn
          obtain ⟨D1, wx, hdw⟩ : ∃ D1 wo, (d.writes F ((secsL b).take j)).1.write (Fj : Int) (secL (chunkL b j)) = (D1, wo) := ⟨_, _, rfl⟩
          have HSN := Lib.hid hdw
          rw [hdw] at hsn
          have HSM := Lib.hid hsn
          clear hFj hdw hsn
          by_cases hlast : J + 128 ≤ n
          · have hmn : ((J + 128 : Nat) : Int) ≤ n := by omega
            have hch : (b.drop J).take 128 = chunkL b j := by unfold chunkL; rw [← hJ]
            have hpt := hrw.part J (J + 128) (by omega) hlast
            rw [show J + 128 - J = 128 by omega, hch] at hpt
            have HROW := Lib.hid hpt
            have HLE : Hid (128 ≤ 128) := Lib.hid (by omega)
            clear hpt
            clear hch hrw hJ
            go_wp2_with fail
            refine (refBytes_walk (cap := cb - J) HROW.out (by omega)).mono ?_
            rintro e w3 ⟨aC, cC, rfl, hoC, hkC, hfC⟩
            have hlenC := HROW.out.llen
            obtain ⟨CL, hCL⟩ : ∃ CL, CL = (chunkL b j).length := ⟨_, rfl⟩
            have hCLb : CL ≤ 128 := by rw [hCL, hlenC]; exact HLE.out
            rw [← hCL] at hoC ⊢
            have HCL := Lib.hid hCL
            have HOC := Lib.hid (And.intro hoC (And.intro hkC hfC))
            clear hCL hlenC hoC hkC hfC HROW HLE
            go_wp2_with fail
            go_loopw [7] (fun x wr => ∃ (i : Nat) (a : Option Addr) (c L : Nat), x = .slice a L c ∧ Hid (L = CL + i) ∧ L ≤ 128 ∧ Hid (Own wr 5 1 a c L (byteV (chunkL b j ++ List.replicate i 0))) ∧ Hid (Keeps Nil wo wr) ∧ Hid (∀ k, blkOf a k → wo.heap.size ≤ k)) (fun x _ => 128 - (lenOf x))
            case atStart => exact ⟨0, aC, cC, CL, rfl, Lib.hid rfl, hCLb, Lib.hid (by simpa using HOC.out.1), Lib.hid HOC.out.2.1, Lib.hid HOC.out.2.2⟩
            case round =>
              obtain ⟨i, a, c, L, rfl, hL, hL2, hO, hki, hfi⟩ := hrel
              by_cases hlt : L < 128
              · have hni : (L : Int) < 128 := by omega
                have HS : Hid (byteV (chunkL b j ++ List.replicate (i + 1) 0) = byteV (chunkL b j ++ List.replicate i 0) ++ [.int .u8 0]) := Lib.hid (by rw [List.replicate_succ', ← List.append_assoc]; unfold byteV; rw [List.map_append]; rfl)
                go_wp2_with (first | (refine wpList_bs rfl 25 5 1 _ rfl [.int .u8 0] Tryd.underlying25 Tryd.bs8 rfl (by decide) (by decide) rfl (by simp [Value.cells]) ?_) | (at_builtin; go_must (refine wpl_append rfl _ _ 25 rfl 5 1 1 Tryd.underlying25 Tryd.info8s (by omega) _ _ L _ rfl (hO.out.keep0 ((Keeps.refl _ _).alloc _)) _ 1 1 [.int .u8 0] rfl (Src.one (Blk.new _ _ _) rfl) (by unfold maxLen; omega) (by omega) ?_)))
                intro a2 cap2 w4 hown2 hk2 hf2 _
                rw [← HS.out] at hown2
                have HO2 := Lib.hid hown2
                have HK2 := Lib.hid ((hki.out.alloc _).step hk2 (fun k hk => .inr (hfi.out k hk)))
                have HF2 := Lib.hid (show ∀ k, blkOf a2 k → wo.heap.size ≤ k from fun k hk => by
                    rcases hf2 k hk with h' | h'
                    · exact hfi.out k h'
                    · rw [h']; have := hki.out.size; simp; omega)
                have HN1 := Lib.hid (show L + 1 = CL + (i + 1) by have := hL.out; omega)
                clear hown2 hk2 hf2
                go_wp2_with fail
                go_roundw
                case rel => first | exact ⟨i + 1, a2, cap2, L + 1, by go_num, HN1, by omega, HO2, HK2, HF2⟩ | ((repeat apply Exists.intro); exact ⟨⟨i + 1, a2, cap2, L + 1, by go_num, HN1, by omega, HO2, HK2, HF2⟩, rfl⟩)
                case measure => first | (simp [lenOf]; done) | (simp [lenOf]; omega)
              · obtain rfl : L = 128 := by omega
                have hni : ¬ ((128 : Int) < 128) := by omega
                have hsec : chunkL b j ++ List.replicate i 0 = secL (chunkL b j) := by
                  unfold secL
                  rw [← HCL.out, show i = 128 - CL by have := hL.out; omega]
                have HSEC := Lib.hid hsec
                have hSi := HSX.out.keep (hGj.out.trans (grew_nil hki.out)).keeps (wr_not HG0.out)
                have hNi := HNX.out.keep (hGj.out.trans (grew_nil hki.out)).keeps (wr_not HGN.out)
                have g0 := Blk.cell hSi 0 rfl
                have n2 := Blk.cell hNi 2 rfl
                rw [← HHV.out] at n2
                clear hsec hNi
                go_upto_region 12 with fail
                refine wp_region_held_drew (S := fun w' => w'.cell? ⟨g, 0, none⟩ = some (.pointer (some ⟨q, 0, none⟩)) ∧ w'.cell? ⟨gn, 2, none⟩ = some (.int .i64 hv)) (by kernel_rfl) ⟨g0, n2⟩ (fun hHeld => ?_)
                have hkd : Keeps Nil wr wr.drew := (Keeps.refl Nil wr).drew
                have HDv := Lib.hid (hDj.out.keep0 (hki.out.trans hkd))
                have HSv := Lib.hid (hSi.keep hkd (fun h => h))
                have HGv := Lib.hid (hGj.out.trans (grew_nil (hki.out.trans hkd)))
                have HRv := Lib.hid ((HSEC.out ▸ hO.out : Own wr 5 1 a c 128 (byteV (secL (chunkL b j)))).keep0 hkd)
                clear hkd g0 n2 hSi hO
                generalize wr.drew = v0 at *
                refine takeL (i := 0) (v := _) rfl (by kernel_rfl) (by kernel_rfl) (by kernel_rfl) (fun _ _ _ h => h) (Or.inl ⟨by rfl, by intro w hSw; (try dsimp only at hSw); go_simp; try with_reducible rfl⟩) (by assumption) ?_
                try simp only [Act.put, List.setIfInBounds_toArray, List.set_cons_zero, List.set_cons_succ]
                refine takeL (i := 1) (v := _) rfl (by kernel_rfl) (by kernel_rfl) (by kernel_rfl) (fun _ _ _ h => h) (Or.inl ⟨by rfl, by intro w hSw; (try dsimp only at hSw); go_simp; try with_reducible rfl⟩) (by assumption) ?_
                try simp only [Act.put, List.setIfInBounds_toArray, List.set_cons_zero, List.set_cons_succ]
                refine takeL (i := 2) (v := _) rfl (by kernel_rfl) (by kernel_rfl) (by kernel_rfl) (fun _ _ _ h => h) (Or.inl ⟨by rfl, by intro w hSw; (try dsimp only at hSw); go_simp; try with_reducible rfl⟩) (by assumption) ?_
                try simp only [Act.put, List.setIfInBounds_toArray, List.set_cons_zero, List.set_cons_succ]
                refine takeL (i := 3) (v := _) rfl (by kernel_rfl) (by kernel_rfl) (by kernel_rfl) (fun _ _ _ h => h) (Or.inl ⟨by rfl, by intro w hSw; (try dsimp only at hSw); go_simp; try with_reducible rfl⟩) (by assumption) ?_
                try simp only [Act.put, List.setIfInBounds_toArray, List.set_cons_zero, List.set_cons_succ]
                refine takeL (i := 4) (v := _) rfl (by kernel_rfl) (by kernel_rfl) (by kernel_rfl) (fun _ _ _ h => h) (Or.inl ⟨by rfl, by intro w hSw; (try dsimp only at hSw); go_simp; try with_reducible rfl⟩) (by assumption) ?_
                try simp only [Act.put, List.setIfInBounds_toArray, List.set_cons_zero, List.set_cons_succ]
                refine takeL (i := 5) (v := _) rfl (by kernel_rfl) (by kernel_rfl) (by kernel_rfl) (fun _ _ _ h => h) (Or.inl ⟨by rfl, by intro w hSw; (try dsimp only at hSw); go_simp; try with_reducible rfl⟩) (by assumption) ?_
                try simp only [Act.put, List.setIfInBounds_toArray, List.set_cons_zero, List.set_cons_succ]
                refine takeL (i := 6) (v := _) rfl (by kernel_rfl) (by kernel_rfl) (by kernel_rfl) (fun _ _ _ h => h) (Or.inl ⟨by rfl, by intro w hSw; (try dsimp only at hSw); go_simp; try with_reducible rfl⟩) (by assumption) ?_
                try simp only [Act.put, List.setIfInBounds_toArray, List.set_cons_zero, List.set_cons_succ]
                refine takeL (i := 7) (v := _) rfl (by kernel_rfl) (by kernel_rfl) (by kernel_rfl) (fun _ _ _ h => h) (Or.inl ⟨by rfl, by intro w hSw; (try dsimp only at hSw); go_simp; try with_reducible rfl⟩) (by assumption) ?_
                try simp only [Act.put, List.setIfInBounds_toArray, List.set_cons_zero, List.set_cons_succ]
                refine takeL (i := 8) (v := _) rfl (by kernel_rfl) (by kernel_rfl) (by kernel_rfl) (fun _ _ _ h => h) (Or.inl ⟨by rfl, by intro w hSw; (try dsimp only at hSw); go_simp; try with_reducible rfl⟩) (by assumption) ?_
                try simp only [Act.put, List.setIfInBounds_toArray, List.set_cons_zero, List.set_cons_succ]
                refine takeL (i := 12) (v := _) rfl (by kernel_rfl) (by kernel_rfl) (by kernel_rfl) (fun _ _ _ h => h) (Or.inl ⟨by rfl, by intro w hSw; (try dsimp only at hSw); go_simp; try with_reducible rfl⟩) (by assumption) ?_
                try simp only [Act.put, List.setIfInBounds_toArray, List.set_cons_zero, List.set_cons_succ]
                refine takeL (i := 14) (v := _) rfl (by kernel_rfl) (by kernel_rfl) (by kernel_rfl) (fun _ _ _ h => h) (Or.inl ⟨by rfl, by intro w hSw; (try dsimp only at hSw); go_simp; try with_reducible rfl⟩) (by assumption) ?_
                try simp only [Act.put, List.setIfInBounds_toArray, List.set_cons_zero, List.set_cons_succ]
                refine onlyL (i := 9) rfl (by kernel_rfl) (fun K hK => ?_)
                go_simp
                refine (HHW.out v0 Q' _ s (writes_len _ _ _) HDv.out HSv.out).mono ?_
                rintro e w4 ⟨rfl, rfl⟩
                refine (fun hHeld => hK _ _ hHeld ?_) (hHeld)
                clear hK
                try simp only [Act.put, List.setIfInBounds_toArray, List.set_cons_zero, List.set_cons_succ]
                refine takeL (i := 10) (v := _) rfl (by kernel_rfl) (by kernel_rfl) (by kernel_rfl) (fun _ _ _ h => h) (Or.inl ⟨by rfl, by intro w hSw; (try dsimp only at hSw); go_simp; try with_reducible rfl⟩) (by assumption) ?_
                try simp only [Act.put, List.setIfInBounds_toArray, List.set_cons_zero, List.set_cons_succ]
                refine takeL (i := 11) (v := _) rfl (by kernel_rfl) (by kernel_rfl) (by kernel_rfl) (fun _ _ _ h => h) (Or.inl ⟨by rfl, by intro w hSw; (try dsimp only at hSw); go_simp; try with_reducible rfl⟩) (by assumption) ?_
                try simp only [Act.put, List.setIfInBounds_toArray, List.set_cons_zero, List.set_cons_succ]
                refine takeL (i := 13) (v := _) rfl (by kernel_rfl) (by kernel_rfl) (by kernel_rfl) (fun _ _ _ h => h) (Or.inl ⟨by rfl, by intro w hSw; (try dsimp only at hSw); go_simp; try with_reducible rfl⟩) (by assumption) ?_
                try simp only [Act.put, List.setIfInBounds_toArray, List.set_cons_zero, List.set_cons_succ]
                refine onlyL (i := 15) rfl (by kernel_rfl) (fun K hK => ?_)
                go_simp
                have hmw := refwrite_walk HDv.out HOKJ.out (by omega) (Fj : Nat) (cb := c) (HRv.out.row (areB_wf (secL_bytes HBB.out)))
                rw [HSN.out] at hmw
                refine hmw.mono ?_
                clear hmw
                rintro e w5 ⟨R5, rfl, hM5, hG5⟩
                refine (fun hHeld => hK _ _ hHeld ?_) (⟨hG5.keeps.cell hHeld.1 (wr_not (by rw [HGv.out.same g HSX.out.lt]; exact HG0.out)), hG5.keeps.cell hHeld.2 (wr_not (by rw [HGv.out.same gn HNX.out.lt]; exact HGN.out))⟩)
                clear hK
                try simp only [Act.put, List.setIfInBounds_toArray, List.set_cons_zero, List.set_cons_succ]
                refine takeL (i := 16) (v := _) rfl (by kernel_rfl) (by kernel_rfl) (by kernel_rfl) (fun _ _ _ h => h) (Or.inl ⟨by rfl, by intro w hSw; (try dsimp only at hSw); go_simp; try with_reducible rfl⟩) (by assumption) ?_
                try simp only [Act.put, List.setIfInBounds_toArray, List.set_cons_zero, List.set_cons_succ]
                refine wpAnyH_done (by kernel_rfl) ?_ _
                have HG5 := Lib.hid (HGv.out.trans hG5)
                have HM5 := Lib.hid hM5
                clear hHeld hM5 hG5 HDv HRv HSN HSv HGv
                cases wx with
                | none =>
                  rw [HC0.out]
                  have HW1 := Lib.hid (And.intro (show IsRef w5 q R5 (d.writes F ((secsL b).take (j + 1))).1 by rw [HSM.out]; exact HM5.out) (show (d.writes F ((secsL b).take (j + 1))).2 = none by rw [HSM.out]))
                  clear HSM HM5
                  go_wp2_with fail
                  go_roundw
                  case rel => first | exact ⟨j + 1, R5, by go_num, by omega, Lib.hid HW1.out.1, Lib.hid HW1.out.2, HG5⟩ | ((repeat apply Exists.intro); exact ⟨⟨j + 1, R5, by go_num, by omega, Lib.hid HW1.out.1, Lib.hid HW1.out.2, HG5⟩, rfl⟩)
                  case measure => first | (simp [intOf]; done) | (simp [intOf]; omega)
                | some k =>
                  have hall : d.writes F (secsL b) = (D1, some k) := by
                    rw [← HSM.out]
                    conv => lhs; rw [← List.take_append_drop (j + 1) (secsL b)]
                    exact writes_err _ _ _ _ (by rw [HSM.out]; simp)
                  have hpu : d.puts F b = (D1, some k) := by
                    unfold Dk.puts
                    rw [hall, if_neg (by simp)]
                  have HSV := Lib.hid (save_e1 HNF.out (HFF.out ▸ hpu) HNXE.out)
                  obtain ⟨C, hC, hcn⟩ : ∃ C, C = codeO (some k) ∧ (C == 0) = false := ⟨_, rfl, by rw [beq_eq_false_iff_ne]; show 101 + (k : Int) ≠ 0; omega⟩
                  have HC := Lib.hid hC
                  rw [← hC]
                  clear hall hpu hC HSM
                  go_wp2_with fail
                  go_ret
                  exact RSaveP.mk' (r := (D1, s, some k)) HSV.out R5 (by rw [HC.out]; rfl) HM5.out (HSX.out.keep HG5.out.keeps (wr_not HG0.out)) (by rw [HG5.out.same g HSX.out.lt]; exact HG0.out) HKX.out HG5.out
          · have hmn : ¬ ((J + 128 : Nat) : Int) ≤ n := by omega
            have hch : (b.drop J).take (n - J) = chunkL b j := by
              unfold chunkL
              rw [← hJ, List.take_of_length_le (by rw [List.length_drop, HBL.out]; omega), List.take_of_length_le (by rw [List.length_drop, HBL.out]; omega)]
            have HROW := Lib.hid (hch ▸ hrw.part J n (by omega) (Nat.le_refl _))
            have HLE : Hid (n - J ≤ 128) := Lib.hid (by omega)
            clear hch hrw hJ
            go_wp2_with fail
            refine (refBytes_walk (cap := cb - J) HROW.out (by omega)).mono ?_
            rintro e w3 ⟨aC, cC, rfl, hoC, hkC, hfC⟩
            have hlenC := HROW.out.llen
            obtain ⟨CL, hCL⟩ : ∃ CL, CL = (chunkL b j).length := ⟨_, rfl⟩
            have hCLb : CL ≤ 128 := by rw [hCL, hlenC]; exact HLE.out
            rw [← hCL] at hoC ⊢
            have HCL := Lib.hid hCL
            have HOC := Lib.hid (And.intro hoC (And.intro hkC hfC))
            clear hCL hlenC hoC hkC hfC HROW HLE
            go_wp2_with fail
            go_loopw [7] (fun x wr => ∃ (i : Nat) (a : Option Addr) (c L : Nat), x = .slice a L c ∧ Hid (L = CL + i) ∧ L ≤ 128 ∧ Hid (Own wr 5 1 a c L (byteV (chunkL b j ++ List.replicate i 0))) ∧ Hid (Keeps Nil wo wr) ∧ Hid (∀ k, blkOf a k → wo.heap.size ≤ k)) (fun x _ => 128 - (lenOf x))
            case atStart => exact ⟨0, aC, cC, CL, rfl, Lib.hid rfl, hCLb, Lib.hid (by simpa using HOC.out.1), Lib.hid HOC.out.2.1, Lib.hid HOC.out.2.2⟩
            case round =>
              obtain ⟨i, a, c, L, rfl, hL, hL2, hO, hki, hfi⟩ := hrel
              by_cases hlt : L < 128
              · have hni : (L : Int) < 128 := by omega
                have HS : Hid (byteV (chunkL b j ++ List.replicate (i + 1) 0) = byteV (chunkL b j ++ List.replicate i 0) ++ [.int .u8 0]) := Lib.hid (by rw [List.replicate_succ', ← List.append_assoc]; unfold byteV; rw [List.map_append]; rfl)
                go_wp2_with (first | (refine wpList_bs rfl 25 5 1 _ rfl [.int .u8 0] Tryd.underlying25 Tryd.bs8 rfl (by decide) (by decide) rfl (by simp [Value.cells]) ?_) | (at_builtin; go_must (refine wpl_append rfl _ _ 25 rfl 5 1 1 Tryd.underlying25 Tryd.info8s (by omega) _ _ L _ rfl (hO.out.keep0 ((Keeps.refl _ _).alloc _)) _ 1 1 [.int .u8 0] rfl (Src.one (Blk.new _ _ _) rfl) (by unfold maxLen; omega) (by omega) ?_)))
                intro a2 cap2 w4 hown2 hk2 hf2 _
                rw [← HS.out] at hown2
                have HO2 := Lib.hid hown2
                have HK2 := Lib.hid ((hki.out.alloc _).step hk2 (fun k hk => .inr (hfi.out k hk)))
                have HF2 := Lib.hid (show ∀ k, blkOf a2 k → wo.heap.size ≤ k from fun k hk => by
                    rcases hf2 k hk with h' | h'
                    · exact hfi.out k h'
                    · rw [h']; have := hki.out.size; simp; omega)
                have HN1 := Lib.hid (show L + 1 = CL + (i + 1) by have := hL.out; omega)
                clear hown2 hk2 hf2
                go_wp2_with fail
                go_roundw
                case rel => first | exact ⟨i + 1, a2, cap2, L + 1, by go_num, HN1, by omega, HO2, HK2, HF2⟩ | ((repeat apply Exists.intro); exact ⟨⟨i + 1, a2, cap2, L + 1, by go_num, HN1, by omega, HO2, HK2, HF2⟩, rfl⟩)
                case measure => first | (simp [lenOf]; done) | (simp [lenOf]; omega)
              · obtain rfl : L = 128 := by omega
                have hni : ¬ ((128 : Int) < 128) := by omega
                have hsec : chunkL b j ++ List.replicate i 0 = secL (chunkL b j) := by
                  unfold secL
                  rw [← HCL.out, show i = 128 - CL by have := hL.out; omega]
                have HSEC := Lib.hid hsec
                have hSi := HSX.out.keep (hGj.out.trans (grew_nil hki.out)).keeps (wr_not HG0.out)
                have hNi := HNX.out.keep (hGj.out.trans (grew_nil hki.out)).keeps (wr_not HGN.out)
                have g0 := Blk.cell hSi 0 rfl
                have n2 := Blk.cell hNi 2 rfl
                rw [← HHV.out] at n2
                clear hsec hNi
                go_upto_region 12 with fail
                refine wp_region_held_drew (S := fun w' => w'.cell? ⟨g, 0, none⟩ = some (.pointer (some ⟨q, 0, none⟩)) ∧ w'.cell? ⟨gn, 2, none⟩ = some (.int .i64 hv)) (by kernel_rfl) ⟨g0, n2⟩ (fun hHeld => ?_)
                have hkd : Keeps Nil wr wr.drew := (Keeps.refl Nil wr).drew
                have HDv := Lib.hid (hDj.out.keep0 (hki.out.trans hkd))
                have HSv := Lib.hid (hSi.keep hkd (fun h => h))
                have HGv := Lib.hid (hGj.out.trans (grew_nil (hki.out.trans hkd)))
                have HRv := Lib.hid ((HSEC.out ▸ hO.out : Own wr 5 1 a c 128 (byteV (secL (chunkL b j)))).keep0 hkd)
                clear hkd g0 n2 hSi hO
                generalize wr.drew = v0 at *
                refine takeL (i := 0) (v := _) rfl (by kernel_rfl) (by kernel_rfl) (by kernel_rfl) (fun _ _ _ h => h) (Or.inl ⟨by rfl, by intro w hSw; (try dsimp only at hSw); go_simp; try with_reducible rfl⟩) (by assumption) ?_
                try simp only [Act.put, List.setIfInBounds_toArray, List.set_cons_zero, List.set_cons_succ]
                refine takeL (i := 1) (v := _) rfl (by kernel_rfl) (by kernel_rfl) (by kernel_rfl) (fun _ _ _ h => h) (Or.inl ⟨by rfl, by intro w hSw; (try dsimp only at hSw); go_simp; try with_reducible rfl⟩) (by assumption) ?_
                try simp only [Act.put, List.setIfInBounds_toArray, List.set_cons_zero, List.set_cons_succ]
                refine takeL (i := 2) (v := _) rfl (by kernel_rfl) (by kernel_rfl) (by kernel_rfl) (fun _ _ _ h => h) (Or.inl ⟨by rfl, by intro w hSw; (try dsimp only at hSw); go_simp; try with_reducible rfl⟩) (by assumption) ?_
                try simp only [Act.put, List.setIfInBounds_toArray, List.set_cons_zero, List.set_cons_succ]
                refine takeL (i := 3) (v := _) rfl (by kernel_rfl) (by kernel_rfl) (by kernel_rfl) (fun _ _ _ h => h) (Or.inl ⟨by rfl, by intro w hSw; (try dsimp only at hSw); go_simp; try with_reducible rfl⟩) (by assumption) ?_
                try simp only [Act.put, List.setIfInBounds_toArray, List.set_cons_zero, List.set_cons_succ]
                refine takeL (i := 4) (v := _) rfl (by kernel_rfl) (by kernel_rfl) (by kernel_rfl) (fun _ _ _ h => h) (Or.inl ⟨by rfl, by intro w hSw; (try dsimp only at hSw); go_simp; try with_reducible rfl⟩) (by assumption) ?_
                try simp only [Act.put, List.setIfInBounds_toArray, List.set_cons_zero, List.set_cons_succ]
                refine takeL (i := 5) (v := _) rfl (by kernel_rfl) (by kernel_rfl) (by kernel_rfl) (fun _ _ _ h => h) (Or.inl ⟨by rfl, by intro w hSw; (try dsimp only at hSw); go_simp; try with_reducible rfl⟩) (by assumption) ?_
                try simp only [Act.put, List.setIfInBounds_toArray, List.set_cons_zero, List.set_cons_succ]
                refine takeL (i := 6) (v := _) rfl (by kernel_rfl) (by kernel_rfl) (by kernel_rfl) (fun _ _ _ h => h) (Or.inl ⟨by rfl, by intro w hSw; (try dsimp only at hSw); go_simp; try with_reducible rfl⟩) (by assumption) ?_
                try simp only [Act.put, List.setIfInBounds_toArray, List.set_cons_zero, List.set_cons_succ]
                refine takeL (i := 7) (v := _) rfl (by kernel_rfl) (by kernel_rfl) (by kernel_rfl) (fun _ _ _ h => h) (Or.inl ⟨by rfl, by intro w hSw; (try dsimp only at hSw); go_simp; try with_reducible rfl⟩) (by assumption) ?_
                try simp only [Act.put, List.setIfInBounds_toArray, List.set_cons_zero, List.set_cons_succ]
                refine takeL (i := 8) (v := _) rfl (by kernel_rfl) (by kernel_rfl) (by kernel_rfl) (fun _ _ _ h => h) (Or.inl ⟨by rfl, by intro w hSw; (try dsimp only at hSw); go_simp; try with_reducible rfl⟩) (by assumption) ?_
                try simp only [Act.put, List.setIfInBounds_toArray, List.set_cons_zero, List.set_cons_succ]
                refine takeL (i := 12) (v := _) rfl (by kernel_rfl) (by kernel_rfl) (by kernel_rfl) (fun _ _ _ h => h) (Or.inl ⟨by rfl, by intro w hSw; (try dsimp only at hSw); go_simp; try with_reducible rfl⟩) (by assumption) ?_
                try simp only [Act.put, List.setIfInBounds_toArray, List.set_cons_zero, List.set_cons_succ]
                refine takeL (i := 14) (v := _) rfl (by kernel_rfl) (by kernel_rfl) (by kernel_rfl) (fun _ _ _ h => h) (Or.inl ⟨by rfl, by intro w hSw; (try dsimp only at hSw); go_simp; try with_reducible rfl⟩) (by assumption) ?_
                try simp only [Act.put, List.setIfInBounds_toArray, List.set_cons_zero, List.set_cons_succ]
                refine onlyL (i := 9) rfl (by kernel_rfl) (fun K hK => ?_)
                go_simp
                refine (HHW.out v0 Q' _ s (writes_len _ _ _) HDv.out HSv.out).mono ?_
                rintro e w4 ⟨rfl, rfl⟩
                refine (fun hHeld => hK _ _ hHeld ?_) (hHeld)
                clear hK
                try simp only [Act.put, List.setIfInBounds_toArray, List.set_cons_zero, List.set_cons_succ]
                refine takeL (i := 10) (v := _) rfl (by kernel_rfl) (by kernel_rfl) (by kernel_rfl) (fun _ _ _ h => h) (Or.inl ⟨by rfl, by intro w hSw; (try dsimp only at hSw); go_simp; try with_reducible rfl⟩) (by assumption) ?_
                try simp only [Act.put, List.setIfInBounds_toArray, List.set_cons_zero, List.set_cons_succ]
                refine takeL (i := 11) (v := _) rfl (by kernel_rfl) (by kernel_rfl) (by kernel_rfl) (fun _ _ _ h => h) (Or.inl ⟨by rfl, by intro w hSw; (try dsimp only at hSw); go_simp; try with_reducible rfl⟩) (by assumption) ?_
                try simp only [Act.put, List.setIfInBounds_toArray, List.set_cons_zero, List.set_cons_succ]
                refine takeL (i := 13) (v := _) rfl (by kernel_rfl) (by kernel_rfl) (by kernel_rfl) (fun _ _ _ h => h) (Or.inl ⟨by rfl, by intro w hSw; (try dsimp only at hSw); go_simp; try with_reducible rfl⟩) (by assumption) ?_
                try simp only [Act.put, List.setIfInBounds_toArray, List.set_cons_zero, List.set_cons_succ]
                refine onlyL (i := 15) rfl (by kernel_rfl) (fun K hK => ?_)
                go_simp
                have hmw := refwrite_walk HDv.out HOKJ.out (by omega) (Fj : Nat) (cb := c) (HRv.out.row (areB_wf (secL_bytes HBB.out)))
                rw [HSN.out] at hmw
                refine hmw.mono ?_
                clear hmw
                rintro e w5 ⟨R5, rfl, hM5, hG5⟩
                refine (fun hHeld => hK _ _ hHeld ?_) (⟨hG5.keeps.cell hHeld.1 (wr_not (by rw [HGv.out.same g HSX.out.lt]; exact HG0.out)), hG5.keeps.cell hHeld.2 (wr_not (by rw [HGv.out.same gn HNX.out.lt]; exact HGN.out))⟩)
                clear hK
                try simp only [Act.put, List.setIfInBounds_toArray, List.set_cons_zero, List.set_cons_succ]
                refine takeL (i := 16) (v := _) rfl (by kernel_rfl) (by kernel_rfl) (by kernel_rfl) (fun _ _ _ h => h) (Or.inl ⟨by rfl, by intro w hSw; (try dsimp only at hSw); go_simp; try with_reducible rfl⟩) (by assumption) ?_
                try simp only [Act.put, List.setIfInBounds_toArray, List.set_cons_zero, List.set_cons_succ]
                refine wpAnyH_done (by kernel_rfl) ?_ _
                have HG5 := Lib.hid (HGv.out.trans hG5)
                have HM5 := Lib.hid hM5
                clear hHeld hM5 hG5 HDv HRv HSN HSv HGv
                cases wx with
                | none =>
                  rw [HC0.out]
                  have HW1 := Lib.hid (And.intro (show IsRef w5 q R5 (d.writes F ((secsL b).take (j + 1))).1 by rw [HSM.out]; exact HM5.out) (show (d.writes F ((secsL b).take (j + 1))).2 = none by rw [HSM.out]))
                  clear HSM HM5
                  go_wp2_with fail
                  go_roundw
                  case rel => first | exact ⟨j + 1, R5, by go_num, by omega, Lib.hid HW1.out.1, Lib.hid HW1.out.2, HG5⟩ | ((repeat apply Exists.intro); exact ⟨⟨j + 1, R5, by go_num, by omega, Lib.hid HW1.out.1, Lib.hid HW1.out.2, HG5⟩, rfl⟩)
                  case measure => first | (simp [intOf]; done) | (simp [intOf]; omega)
                | some k =>
                  have hall : d.writes F (secsL b) = (D1, some k) := by
                    rw [← HSM.out]
                    conv => lhs; rw [← List.take_append_drop (j + 1) (secsL b)]
                    exact writes_err _ _ _ _ (by rw [HSM.out]; simp)
                  have hpu : d.puts F b = (D1, some k) := by
                    unfold Dk.puts
                    rw [hall, if_neg (by simp)]
                  have HSV := Lib.hid (save_e1 HNF.out (HFF.out ▸ hpu) HNXE.out)
                  obtain ⟨C, hC, hcn⟩ : ∃ C, C = codeO (some k) ∧ (C == 0) = false := ⟨_, rfl, by rw [beq_eq_false_iff_ne]; show 101 + (k : Int) ≠ 0; omega⟩
                  have HC := Lib.hid hC
                  rw [← hC]
                  clear hall hpu hC HSM
                  go_wp2_with fail
                  go_ret
                  exact RSaveP.mk' (r := (D1, s, some k)) HSV.out R5 (by rw [HC.out]; rfl) HM5.out (HSX.out.keep HG5.out.keeps (wr_not HG0.out)) (by rw [HG5.out.same g HSX.out.lt]; exact HG0.out) HKX.out HG5.out
        · obtain rfl : j = T := by omega
          have hjj : ¬ ((j : Int) < j) := by omega
          have hall : (secsL b).take j = secsL b := List.take_of_length_le (by rw [secsL_len, HTN.out]; exact Nat.le_refl _)
          have HOKJ := Lib.hid (show (d.writes F ((secsL b).take j)).1.Ok (m + 400) from (writes_ok _ F HOK.out (fun x hx => (secsL_mem HBY.out x (List.mem_of_mem_take hx)).1)).mono (by rw [List.length_take, secsL_len, HTN.out]; omega))
          rw [hall] at hDj hNj HOKJ
          have hsy := refsync_walk hDj.out HOKJ.out (by omega)
          have HG1 := hGj
          have hS1 := HSX.out.keep hGj.out.keeps (wr_not HG0.out)
          have HN1 := Lib.hid (HNX.out.keep hGj.out.keeps (wr_not HGN.out))
          have g0 := Blk.cell hS1 0 rfl
          have HS1 := Lib.hid hS1
          obtain ⟨D1, o1, hD1⟩ : ∃ D1 o1, (d.writes F (secsL b)).1.sync = (D1, o1) := ⟨_, _, rfl⟩
          have hpu : d.puts F b = (D1, o1) := by unfold Dk.puts; rw [if_pos hNj.out, hD1]
          have HL1 : Hid (D1.vs.length = d.vs.length) := Lib.hid (by have := puts_len (d := d) (f := F) (b := b); rw [hpu] at this; exact this)
          have HO1 := Lib.hid (show D1.Ok (m + 400) from by have h := Dk.Ok.sync HOKJ.out (by omega); rw [hD1] at h; exact h)
          have HPU := Lib.hid (HFF.out ▸ hpu : d.puts (d.first nx.half) b = (D1, o1))
          rw [hD1] at hsy
          have HSY := Lib.hid hsy
          have HR1 := Lib.hid (show Q' g = 0 ∧ Q' gn = 0 from ⟨by rw [hGj.out.same g HSX.out.lt]; exact HG0.out, by rw [hGj.out.same gn HNX.out.lt]; exact HGN.out⟩)
          clear hall HOKJ hsy hS1 hD1 hpu hDj hNj hGj
          go_wp2_with fail
          refine HSY.out.mono ?_
          rintro e w5 ⟨rfl, hD5, hk5⟩
          have HD5 := Lib.hid hD5
          have HG5 := Lib.hid (HG1.out.trans (grew_of hk5))
          have HS5 := Lib.hid (HS1.out.keep hk5 (wr_not HR1.out.1))
          have HN5 := Lib.hid (HN1.out.keep hk5 (wr_not HR1.out.2))
          clear hD5 hk5 HSY HS1 HN1 HG1 g0
          cases o1 with
          | some k =>
            have HSV := Lib.hid (save_e1 HNF.out HPU.out HNXE.out)
            obtain ⟨C, hC, hcn⟩ : ∃ C, C = codeO (some k) ∧ (C == 0) = false := ⟨_, rfl, by rw [beq_eq_false_iff_ne]; show 101 + (k : Int) ≠ 0; omega⟩
            have HC := Lib.hid hC
            rw [← hC]
            clear hC
            go_wp2_with fail
            go_ret
            exact RSaveP.mk' (r := (D1, s, some k)) HSV.out Q' (by rw [HC.out]; rfl) HD5.out HS5.out HR1.out.1 HKX.out HG5.out
          | none =>
            rw [HC0.out]
            have g0 := Blk.cell HS5.out 0 rfl
            have hhd := fun w' (hN : RSlAt w' gn q nx) => refhead_walk hN ⟨HNB.out.1, by have := HNB.out.2.1; omega, by have := HNB.out.2.2; have := HL.out; omega⟩
            have HHD := Lib.hid hhd
            obtain ⟨D2a, o2a, hD2a⟩ : ∃ D o, D1.write ((0 : Nat) : Int) (headL nx) = (D, o) := ⟨_, _, rfl⟩
            have hph := puts_head D1 nx
            rw [hD2a] at hph
            have HPH := Lib.hid hph
            have HWA := Lib.hid hD2a
            clear hhd hD2a hph
            go_upto_region 18 with fail
            refine wp_region_held_drew (S := fun w' => w'.cell? ⟨g, 0, none⟩ = some (.pointer (some ⟨q, 0, none⟩))) (by kernel_rfl) (by exact g0) (fun hHeld => ?_)
            have hkd : Keeps Nil w5 w5.drew := (Keeps.refl Nil w5).drew
            have HD6 := Lib.hid (HD5.out.keep0 hkd)
            have HG6 := Lib.hid (HG5.out.trans (grew_nil hkd))
            have HS6 := Lib.hid (HS5.out.keep hkd (fun h => h))
            have HN6 := Lib.hid (HN5.out.keep hkd (fun h => h))
            clear hkd g0 HD5 HG5 HS5 HN5
            generalize w5.drew = v0 at *
            refine takeL (i := 0) (v := _) rfl (by kernel_rfl) (by kernel_rfl) (by kernel_rfl) (fun _ _ _ h => h) (Or.inl ⟨by rfl, by intro w hSw; (try dsimp only at hSw); go_simp; try with_reducible rfl⟩) (by assumption) ?_
            try simp only [Act.put, List.setIfInBounds_toArray, List.set_cons_zero, List.set_cons_succ]
            refine takeL (i := 1) (v := _) rfl (by kernel_rfl) (by kernel_rfl) (by kernel_rfl) (fun _ _ _ h => h) (Or.inl ⟨by rfl, by intro w hSw; (try dsimp only at hSw); go_simp; try with_reducible rfl⟩) (by assumption) ?_
            try simp only [Act.put, List.setIfInBounds_toArray, List.set_cons_zero, List.set_cons_succ]
            refine takeL (i := 2) (v := _) rfl (by kernel_rfl) (by kernel_rfl) (by kernel_rfl) (fun _ _ _ h => h) (Or.inl ⟨by rfl, by intro w hSw; (try dsimp only at hSw); go_simp; try with_reducible rfl⟩) (by assumption) ?_
            try simp only [Act.put, List.setIfInBounds_toArray, List.set_cons_zero, List.set_cons_succ]
            refine takeL (i := 3) (v := _) rfl (by kernel_rfl) (by kernel_rfl) (by kernel_rfl) (fun _ _ _ h => h) (Or.inl ⟨by rfl, by intro w hSw; (try dsimp only at hSw); go_simp; try with_reducible rfl⟩) (by assumption) ?_
            try simp only [Act.put, List.setIfInBounds_toArray, List.set_cons_zero, List.set_cons_succ]
            refine takeL (i := 4) (v := _) rfl (by kernel_rfl) (by kernel_rfl) (by kernel_rfl) (fun _ _ _ h => h) (Or.inl ⟨by rfl, by intro w hSw; (try dsimp only at hSw); go_simp; try with_reducible rfl⟩) (by assumption) ?_
            try simp only [Act.put, List.setIfInBounds_toArray, List.set_cons_zero, List.set_cons_succ]
            refine onlyL (i := 5) rfl (by kernel_rfl) (fun K hK => ?_)
            go_simp
            refine (HHD.out v0 HN6.out).mono ?_
            rintro e w6 ⟨ah, ch, rfl, hoh, hk6, hfh⟩
            refine (fun hHeld => hK _ _ hHeld ?_) ((hk6.cell hHeld (fun h => h)))
            clear hK
            try simp only [Act.put, List.setIfInBounds_toArray, List.set_cons_zero, List.set_cons_succ]
            refine onlyL (i := 6) rfl (by kernel_rfl) (fun K hK => ?_)
            go_simp
            have hmw := refwrite_walk (HD6.out.keep0 hk6) HO1.out (by omega) ((0 : Nat) : Int) (cb := ch) (hoh.row (areB_wf (headL_bytes nx)))
            rw [HWA.out] at hmw
            refine hmw.mono ?_
            clear hmw
            rintro e w7 ⟨Q7, rfl, hD7, hG7⟩
            refine (fun hHeld => hK _ _ hHeld ?_) ((hG7.keeps.cell hHeld (wr_not HR1.out.1)))
            clear hK
            try simp only [Act.put, List.setIfInBounds_toArray, List.set_cons_zero, List.set_cons_succ]
            refine takeL (i := 7) (v := _) rfl (by kernel_rfl) (by kernel_rfl) (by kernel_rfl) (fun _ _ _ h => h) (Or.inl ⟨by rfl, by intro w hSw; (try dsimp only at hSw); go_simp; try with_reducible rfl⟩) (by assumption) ?_
            try simp only [Act.put, List.setIfInBounds_toArray, List.set_cons_zero, List.set_cons_succ]
            refine wpAnyH_done (by kernel_rfl) ?_ _
            have HD7 := Lib.hid hD7
            have HG7 := Lib.hid (HG6.out.trans ((grew_nil hk6).trans hG7))
            have HS7 := Lib.hid ((HS6.out.keep hk6 (fun h => h)).keep hG7.keeps (wr_not HR1.out.1))
            have HN7 := Lib.hid ((HN6.out.keep hk6 (fun h => h)).keep hG7.keeps (wr_not HR1.out.2))
            have HR7 := Lib.hid (show Q7 g = 0 ∧ Q7 gn = 0 from ⟨by rw [hG7.same g (Nat.lt_of_lt_of_le HS6.out.lt hk6.size)]; exact HR1.out.1, by rw [hG7.same gn (Nat.lt_of_lt_of_le HN6.out.lt hk6.size)]; exact HR1.out.2⟩)
            have HO7 := Lib.hid (show D2a.Ok (m + 401) from by have h := HO1.out.write ((0 : Nat) : Int) (headL_bytes nx); rw [HWA.out] at h; exact h)
            clear hHeld hoh hk6 hfh hD7 hG7 HD6 HG6 HS6 HN6
            cases o2a with
            | some k =>
              have hp2 : D1.puts 0 (headL nx) = (D2a, some k) := by rw [HPH.out, if_neg (by simp)]
              have HSV := Lib.hid (save_e2 HNF.out HPU.out HNXE.out hp2)
              obtain ⟨C, hC, hcn⟩ : ∃ C, C = codeO (some k) ∧ (C == 0) = false := ⟨_, rfl, by rw [beq_eq_false_iff_ne]; show 101 + (k : Int) ≠ 0; omega⟩
              have HC := Lib.hid hC
              rw [← hC]
              clear hC hp2
              go_wp2_with fail
              go_ret
              exact RSaveP.mk' (r := (D2a, s, some k)) HSV.out Q7 (by rw [HC.out]; rfl) HD7.out HS7.out HR7.out.1 HKX.out HG7.out
            | none =>
              rw [HC0.out]
              have g0 := Blk.cell HS7.out 0 rfl
              obtain ⟨D2, o2, hD2⟩ : ∃ D o, D2a.sync = (D, o) := ⟨_, _, rfl⟩
              have hp2 : D1.puts 0 (headL nx) = (D2, o2) := by rw [HPH.out, if_pos rfl, hD2]
              have HL2 : Hid (D2.vs.length = d.vs.length) := Lib.hid (by have := puts_len (d := D1) (f := 0) (b := headL nx); rw [hp2] at this; exact this.trans HL1.out)
              have HO2 := Lib.hid (show D2.Ok (m + 401) from by have h := Dk.Ok.sync HO7.out (by omega); rw [hD2] at h; exact h)
              have hsy := refsync_walk HD7.out HO7.out (by omega)
              rw [hD2] at hsy
              have HSY := Lib.hid hsy
              have HP2 := Lib.hid hp2
              clear hD2 hp2 hsy
              go_wp2_with fail
              refine HSY.out.mono ?_
              rintro e w8 ⟨rfl, hD8, hk8⟩
              have HD8 := Lib.hid hD8
              have HG8 := Lib.hid (HG7.out.trans (grew_of hk8))
              have HS8 := Lib.hid (HS7.out.keep hk8 (wr_not HR7.out.1))
              have HN8 := Lib.hid (HN7.out.keep hk8 (wr_not HR7.out.2))
              clear hD8 hk8 HSY HS7 HN7 HG7 HD7 g0 HO7
              cases o2 with
              | some k =>
                have HSV := Lib.hid (save_e2 HNF.out HPU.out HNXE.out HP2.out)
                obtain ⟨C, hC, hcn⟩ : ∃ C, C = codeO (some k) ∧ (C == 0) = false := ⟨_, rfl, by rw [beq_eq_false_iff_ne]; show 101 + (k : Int) ≠ 0; omega⟩
                have HC := Lib.hid hC
                rw [← hC]
                clear hC
                go_wp2_with fail
                go_ret
                exact RSaveP.mk' (r := (D2, s, some k)) HSV.out Q7 (by rw [HC.out]; rfl) HD8.out HS8.out HR7.out.1 HKX.out HG8.out
              | none =>
                rw [HC0.out]
                have s0 := Blk.cell HS8.out 0 rfl
                have s1 := Blk.cell HS8.out 1 rfl
                have s2 := Blk.cell HS8.out 2 rfl
                have s3 := Blk.cell HS8.out 3 rfl
                have hzd := Tryd.zeroRSlots
                obtain ⟨w9, go, hgo, hbo, hw9, hk9⟩ := alloc1 w8 [.pointer (some ⟨q, 0, none⟩), .int .i64 s.seq, .int .i64 s.half, .int .i64 s.many] 78
                have HW9 : Hid (w8.alloc (.cells #[.pointer (some ⟨q, 0, none⟩), .int .i64 s.seq, .int .i64 s.half, .int .i64 s.many] 78) = w9) := Lib.hid hw9.symm
                have HGO := Lib.hid hgo.symm
                have HBO := Lib.hid hbo
                have HS9 := Lib.hid (HS8.out.keep hk9 (fun h => h))
                have HN9 := Lib.hid (HN8.out.keep hk9 (fun h => h))
                have HD9 := Lib.hid (HD8.out.keep0 hk9)
                have HG9 := Lib.hid (HG8.out.trans (grew_nil hk9))
                have hgog : go ≠ g := by have := HS8.out.lt; omega
                have hgoQ : Q7 go = 0 := by
                  rcases Nat.eq_zero_or_pos (Q7 go) with h | h
                  · exact h
                  · have := HD8.out.lt go (by omega); omega
                have HOQ := Lib.hid hgoQ
                clear hgo hbo hw9 hk9 HS8 HN8 HD8 HG8 hgoQ
                go_upto_region 25 with fail
                rw [HW9.out, HGO.out]
                clear s0 s1 s2 s3 hzd HW9 HGO
                go_wp2_with (first | (refine wpl_load rfl 78 _ rfl gn rfl HN9.out _ Tryd.underlying78 rfl Tryd.sizeRSlots ?_) | (refine wpl_store rfl 78 _ _ rfl g rfl _ rfl HS9.out rfl Tryd.sizeRSlots (by simp [Value.oneCell']) ?_))
                intro wB hSB hkB hzB
                clear hzB
                have HSB := Lib.hid (show RSlAt wB g q nx from hSB)
                have HBB := Lib.hid (HBO.out.keep hkB (fun e => hgog e))
                have HDB := Lib.hid (HD9.out.keep hkB (fun k hk e => by rw [show k = g from e] at hk; exact hk HR7.out.1))
                have HKB := Lib.hid (((HKX.out.nil.trans HG9.out.keeps).mono (fun k h => .inl h) : Keeps (fun k => Wr Q k ∨ k = g) w w9).trans (hkB.mono (fun k h => .inr h)))
                have HSM := Lib.hid (show ∀ k, k < w.heap.size → Q7 k = Q k from fun k hk => HG9.out.same k (Nat.lt_of_lt_of_le hk HKX.out.size))
                have o1 := HBB.out.cell 1 rfl
                have o3 := HBB.out.cell 3 rfl
                clear hSB hkB HS9 HN9 HD9 HBO HG9
                rw [← HSQ.out] at o1
                by_cases hm0 : s.many = 0
                · have HSV := Lib.hid (save_0 HNF.out HPU.out HNXE.out HP2.out hm0)
                  have hm0i : (s.many : Int) = 0 := by omega
                  rw [hm0i] at o3
                  clear hm0 hm0i
                  by_cases hq0 : sq = 0
                  · have hqi : ((sq : Int) == 0) = true := by rw [beq_iff_eq]; omega
                    clear hq0
                    go_wp2_with fail
                    go_ret
                    show RSaveP w q g Q (d.save s b) _ _
                    rw [HSV.out]
                    exact ⟨Q7, rfl, HDB.out, HSB.out, HR7.out.1, HKB.out, HSM.out⟩
                  · have hqi : ((sq : Int) == 0) = false := by rw [beq_eq_false_iff_ne]; omega
                    clear hq0
                    go_wp2_with fail
                    go_ret
                    show RSaveP w q g Q (d.save s b) _ _
                    rw [HSV.out]
                    exact ⟨Q7, rfl, HDB.out, HSB.out, HR7.out.1, HKB.out, HSM.out⟩
                · have hqi : ((sq : Int) == 0) = false := by
                    rw [beq_eq_false_iff_ne]
                    intro h
                    exact hm0 (HZ.out (by rw [← HSQ.out]; omega))
                  have hmd : ((s.many : Int) == 0) = false := by rw [beq_eq_false_iff_ne]; omega
                  have HM0 := Lib.hid hm0
                  have o2 := HBB.out.cell 2 rfl
                  obtain ⟨mn, hmn⟩ : ∃ x, x = s.many := ⟨_, rfl⟩
                  obtain ⟨sh, hsh⟩ : ∃ x, x = s.half := ⟨_, rfl⟩
                  have hmb : mn ≤ 25600 := by have := HL.out; omega
                  rw [← hmn] at o3 hmd
                  rw [← hsh] at o2
                  obtain ⟨T0, hT0⟩ : ∃ T, T = takesN mn := ⟨_, rfl⟩
                  have hTb0 : T0 ≤ 300 := by rw [hT0]; unfold takesN; omega
                  have HTZ := Lib.hid (fun w => need_walk mn w (by omega))
                  rw [← hT0] at HTZ
                  obtain ⟨F0, hF0⟩ : ∃ x, x = d.first s.half := ⟨_, rfl⟩
                  have hFM0 : F0 = 1 + M0 := by rw [hF0, HNN.out.2]; rfl
                  have hx0 : (sh : Int) * (N : Int) = (M0 : Int) := by rw [HNN.out.2, HNN.out.1, hsh]; simp
                  have hwM0 : IntKind.i64.wrap (M0 : Int) = (M0 : Int) := by rw [IntKind.wrap_i64]; omega
                  have hw10 : IntKind.i64.wrap (1 + (M0 : Int)) = 1 + (M0 : Int) := by rw [IntKind.wrap_i64]; omega
                  have HF0 := Lib.hid (And.intro hFM0 hF0)
                  have HMS := Lib.hid (And.intro hmn (And.intro hsh hT0))
                  clear hm0 hmn hsh hT0 hF0 hFM0
                  go_wp2_with fail
                  go_loopw [11, 9] (fun x _ wr => ∃ (i : Nat) (Q9 : Roles), x = .int .i64 i ∧ i ≤ T0 ∧ Hid (IsRef wr q Q9 (D2.writes F0 ((secsL (List.replicate mn 0)).take i)).1) ∧ Hid ((D2.writes F0 ((secsL (List.replicate mn 0)).take i)).2 = none) ∧ Hid (Grew wB wr Q7 Q9)) (fun x _ _ => T0 - (intOf x).toNat)
                  case atStart => exact ⟨0, Q7, rfl, Nat.zero_le _, HDB, Lib.hid rfl, Lib.hid (Grew.refl _ _)⟩
                  case round =>
                    obtain ⟨i, Q9, rfl, hi, hDi, hNi, hGi⟩ := hrel
                    obtain ⟨wo, hwo⟩ : ∃ x, x = wr := ⟨_, rfl⟩
                    subst hwo
                    have hSi := HSB.out.keep hGi.out.keeps (wr_not HR7.out.1)
                    have p3 := hGi.out.keeps.cell o3 (wr_not HOQ.out)
                    have p2 := hGi.out.keeps.cell o2 (wr_not HOQ.out)
                    have g0 := Blk.cell hSi 0 rfl
                    have HSi := Lib.hid hSi
                    have HOKI := Lib.hid (show (D2.writes F0 ((secsL (List.replicate mn 0)).take i)).1.Ok (m + 800) from (writes_ok _ F0 HO2.out (fun x hx => secsZ_bytes x (List.mem_of_mem_take hx))).mono (by rw [List.length_take, secsZ_len, ← HMS.out.2.2]; omega))
                    clear hSi o1 o2
                    go_wp2_with fail
                    refine (HTZ.out wo).mono ?_
                    rintro e wz ⟨rfl, rfl⟩
                    by_cases hiT : i < T0
                    · have hi1 : (i : Int) < T0 := by omega
                      have hi0 : (0 : Int) ≤ i := by omega
                      obtain ⟨Fj, hFj⟩ : ∃ x, x = F0 + i := ⟨_, rfl⟩
                      have hfj : IntKind.i64.wrap (1 + (M0 : Int) + (i : Int)) = (Fj : Int) := by have hFM := HF0.out.1; rw [hFj, show 1 + (M0 : Int) + i = ((F0 + i : Nat) : Int) by omega]; exact IntWalk.i64_in _ (by omega)
                      have hsn := writes_snoc ((secsL (List.replicate mn 0)).take i) D2 F0 zsec
                      rw [hNi.out, if_pos rfl, List.length_take, secsZ_len, Nat.min_eq_left (by rw [← HMS.out.2.2]; omega), ← secsZ_take (by rw [← HMS.out.2.2]; exact hiT), ← hFj] at hsn
                      obtain ⟨D3, wx, hdw⟩ : ∃ D1 wo, (D2.writes F0 ((secsL (List.replicate mn 0)).take i)).1.write (Fj : Int) zsec = (D1, wo) := ⟨_, _, rfl⟩
                      have HSN := Lib.hid hdw
                      rw [hdw] at hsn
                      have HSM2 := Lib.hid hsn
                      clear hFj hdw hsn p3
                      go_upto_region 31 with fail
                      refine wp_region_held_drew (S := fun w' => w'.cell? ⟨g, 0, none⟩ = some (.pointer (some ⟨q, 0, none⟩)) ∧ w'.cell? ⟨go, 2, none⟩ = some (.int .i64 sh)) (by kernel_rfl) ⟨g0, p2⟩ (fun hHeld => ?_)
                      have hkd : Keeps Nil wo wo.drew := (Keeps.refl Nil wo).drew
                      have HDv := Lib.hid (hDi.out.keep0 hkd)
                      have HSv := Lib.hid (HSi.out.keep hkd (fun h => h))
                      have HGv := Lib.hid (hGi.out.trans (grew_nil hkd))
                      have q0 := hkd.cell g0 (fun h => h)
                      have q2 := hkd.cell p2 (fun h => h)
                      clear hkd g0 p2 hDi
                      generalize wo.drew = v0 at *
                      have hKw : Keeps Nil v0 v0 := Keeps.refl _ _
                      refine takeL (i := 0) (v := _) rfl (by kernel_rfl) (by kernel_rfl) (by kernel_rfl) (fun _ _ _ h => h) (Or.inl ⟨by rfl, by intro w hSw; (try dsimp only at hSw); go_simp; try with_reducible rfl⟩) (by assumption) ?_
                      try simp only [Act.put, List.setIfInBounds_toArray, List.set_cons_zero, List.set_cons_succ]
                      refine takeL (i := 1) (v := _) rfl (by kernel_rfl) (by kernel_rfl) (by kernel_rfl) (fun _ _ _ h => h) (Or.inl ⟨by rfl, by intro w hSw; (try dsimp only at hSw); go_simp; try with_reducible rfl⟩) (by assumption) ?_
                      try simp only [Act.put, List.setIfInBounds_toArray, List.set_cons_zero, List.set_cons_succ]
                      refine takeL (i := 2) (v := _) rfl (by kernel_rfl) (by kernel_rfl) (by kernel_rfl) (fun _ _ _ h => h) (Or.inl ⟨by rfl, by intro w hSw; (try dsimp only at hSw); go_simp; try with_reducible rfl⟩) (by assumption) ?_
                      try simp only [Act.put, List.setIfInBounds_toArray, List.set_cons_zero, List.set_cons_succ]
                      refine takeL (i := 3) (v := _) rfl (by kernel_rfl) (by kernel_rfl) (by kernel_rfl) (fun _ _ _ h => h) (Or.inl ⟨by rfl, by intro w hSw; (try dsimp only at hSw); go_simp; try with_reducible rfl⟩) (by assumption) ?_
                      try simp only [Act.put, List.setIfInBounds_toArray, List.set_cons_zero, List.set_cons_succ]
                      refine takeL (i := 4) (v := _) rfl (by kernel_rfl) (by kernel_rfl) (by kernel_rfl) (fun _ _ _ h => h) (Or.inl ⟨by rfl, by intro w hSw; (try dsimp only at hSw); go_simp; try with_reducible rfl⟩) (by assumption) ?_
                      try simp only [Act.put, List.setIfInBounds_toArray, List.set_cons_zero, List.set_cons_succ]
                      refine takeL (i := 5) (v := _) rfl (by kernel_rfl) (by kernel_rfl) (by kernel_rfl) (fun _ _ _ h => h) (Or.inl ⟨by rfl, by intro w hSw; (try dsimp only at hSw); go_simp; try with_reducible rfl⟩) (by assumption) ?_
                      try simp only [Act.put, List.setIfInBounds_toArray, List.set_cons_zero, List.set_cons_succ]
                      refine takeL (i := 6) (v := _) rfl (by kernel_rfl) (by kernel_rfl) (by kernel_rfl) (fun _ _ _ h => h) (Or.inl ⟨by rfl, by intro w hSw; (try dsimp only at hSw); go_simp; try with_reducible rfl⟩) (by assumption) ?_
                      try simp only [Act.put, List.setIfInBounds_toArray, List.set_cons_zero, List.set_cons_succ]
                      refine takeL (i := 10) (v := _) rfl (by kernel_rfl) (by kernel_rfl) (by kernel_rfl) (fun _ _ _ h => h) (Or.inl ⟨by rfl, by intro w hSw; (try dsimp only at hSw); go_simp; try with_reducible rfl⟩) (by assumption) ?_
                      try simp only [Act.put, List.setIfInBounds_toArray, List.set_cons_zero, List.set_cons_succ]
                      refine bothL (i := 7) (j := 12) rfl rfl (by kernel_rfl) (fun K hK => ?_) (fun K hK => ?_)
                      · skip
                        go_simp
                        refine (HHW.out _ Q9 _ nx ((writes_len _ _ _).trans HL2.out) (HDv.out.keep0 hKw) (HSv.out.keep hKw (fun h => h))).mono ?_
                        rintro e w7 ⟨rfl, rfl⟩
                        refine (fun hHeld => hK _ _ hHeld ?_) (⟨hKw.cell q0 (fun h => h), hKw.cell q2 (fun h => h)⟩)
                        clear hK
                        try simp only [Act.put, List.setIfInBounds_toArray, List.set_cons_zero, List.set_cons_succ]
                        refine takeL (i := 8) (v := _) rfl (by kernel_rfl) (by kernel_rfl) (by kernel_rfl) (fun _ _ _ h => h) (Or.inl ⟨by rfl, by intro w hSw; (try dsimp only at hSw); go_simp; try with_reducible rfl⟩) (by assumption) ?_
                        try simp only [Act.put, List.setIfInBounds_toArray, List.set_cons_zero, List.set_cons_succ]
                        refine takeL (i := 9) (v := _) rfl (by kernel_rfl) (by kernel_rfl) (by kernel_rfl) (fun _ _ _ h => h) (Or.inl ⟨by rfl, by intro w hSw; (try dsimp only at hSw); go_simp; try with_reducible rfl⟩) (by assumption) ?_
                        try simp only [Act.put, List.setIfInBounds_toArray, List.set_cons_zero, List.set_cons_succ]
                        refine takeL (i := 11) (v := _) rfl (by kernel_rfl) (by kernel_rfl) (by kernel_rfl) (fun _ _ _ h => h) (Or.inl ⟨by rfl, by intro w hSw; (try dsimp only at hSw); go_simp; try with_reducible rfl⟩) (by assumption) ?_
                        try simp only [Act.put, List.setIfInBounds_toArray, List.set_cons_zero, List.set_cons_succ]
                        refine onlyL (i := 12) rfl (by kernel_rfl) (fun K hK => ?_)
                        refine step_make rfl _ _ 25 rfl 5 (.int .u8 0) 1 Tryd.underlying25 Tryd.infoU8z rfl .i64 .i64 128 128 128 128 rfl rfl rfl rfl (by decide) (by decide) (by unfold maxLen; decide) ?_
                        intro g12 w12 hg12 hb12 qk
                        clear hg12
                        replace hb12 : Blk w12 g12 (byteV zsec) 5 := byteV_zsec ▸ hb12
                        refine (fun hHeld => hK _ _ hHeld ?_) (⟨(hKw.trans qk).cell q0 (fun h => h), (hKw.trans qk).cell q2 (fun h => h)⟩)
                        clear hK
                        try simp only [Act.put, List.setIfInBounds_toArray, List.set_cons_zero, List.set_cons_succ]
                        replace hKw := hKw.trans qk
                        refine onlyL (i := 13) rfl (by kernel_rfl) (fun K hK => ?_)
                        go_simp
                        have hmw := refwrite_walk (HDv.out.keep0 hKw) HOKI.out (by omega) (Fj : Nat) (cb := 128) (hb12.row8 zsec_bytes zsec_len (by omega))
                        rw [HSN.out] at hmw
                        refine hmw.mono ?_
                        clear hmw
                        rintro e w13 ⟨R5, rfl, hM5, hG5⟩
                        refine (fun hHeld => hK _ _ hHeld ?_) (⟨hG5.keeps.cell (hKw.cell q0 (fun h => h)) (wr_not (by rw [HGv.out.same g HSB.out.lt]; exact HR7.out.1)), hG5.keeps.cell (hKw.cell q2 (fun h => h)) (wr_not (by rw [HGv.out.same go HBB.out.lt]; exact HOQ.out))⟩)
                        clear hK
                        try simp only [Act.put, List.setIfInBounds_toArray, List.set_cons_zero, List.set_cons_succ]
                        refine takeL (i := 14) (v := _) rfl (by kernel_rfl) (by kernel_rfl) (by kernel_rfl) (fun _ _ _ h => h) (Or.inl ⟨by rfl, by intro w hSw; (try dsimp only at hSw); go_simp; try with_reducible rfl⟩) (by assumption) ?_
                        try simp only [Act.put, List.setIfInBounds_toArray, List.set_cons_zero, List.set_cons_succ]
                        refine wpAnyH_done (by kernel_rfl) ?_ _
                        have HG5 := Lib.hid (HGv.out.trans ((grew_nil hKw).trans hG5))
                        have HM5 := Lib.hid hM5
                        clear hM5 hG5 HDv HSN HSv HGv hKw hb12 q0 q2
                        cases wx with
                        | none =>
                          rw [HC0.out]
                          have HW1 := Lib.hid (And.intro (show IsRef w13 q R5 (D2.writes F0 ((secsL (List.replicate mn 0)).take (i + 1))).1 by rw [HSM2.out]; exact HM5.out) (show (D2.writes F0 ((secsL (List.replicate mn 0)).take (i + 1))).2 = none by rw [HSM2.out]))
                          clear HSM2 HM5
                          go_wp2_with fail
                          go_roundw
                          case rel => first | exact ⟨i + 1, R5, by go_num, by omega, Lib.hid HW1.out.1, Lib.hid HW1.out.2, HG5⟩ | ((repeat apply Exists.intro); exact ⟨⟨i + 1, R5, by go_num, by omega, Lib.hid HW1.out.1, Lib.hid HW1.out.2, HG5⟩, rfl⟩)
                          case measure => first | (simp [intOf]; done) | (simp [intOf]; omega)
                        | some k =>
                          have hall : D2.writes F0 (secsL (List.replicate mn 0)) = (D3, some k) := by
                            rw [← HSM2.out]
                            conv => lhs; rw [← List.take_append_drop (i + 1) (secsL (List.replicate mn 0))]
                            exact writes_err _ _ _ _ (by rw [HSM2.out]; simp)
                          have hpu : D2.puts F0 (List.replicate mn 0) = (D3, some k) := by
                            unfold Dk.puts
                            rw [hall, if_neg (by simp)]
                          have HSV : Hid (d.save s b = (D3, nx, some k)) := Lib.hid (save_3 HNF.out HPU.out HNXE.out HP2.out HM0.out (by rw [← HF0.out.2, ← HMS.out.1]; exact hpu))
                          obtain ⟨C, hC, hcn⟩ : ∃ C, C = codeO (some k) ∧ (C == 0) = false := ⟨_, rfl, by rw [beq_eq_false_iff_ne]; show 101 + (k : Int) ≠ 0; omega⟩
                          have HC := Lib.hid hC
                          rw [← hC]
                          clear hall hpu hC HSM2
                          go_wp2_with fail
                          go_ret
                          have hgQ : R5 g = 0 := by rw [HG5.out.same g HSB.out.lt]; exact HR7.out.1
                          show RSaveP w q g Q (d.save s b) _ _
                          rw [HSV.out]
                          refine ⟨R5, by rw [HC.out]; rfl, HM5.out, HSB.out.keep HG5.out.keeps (wr_not HR7.out.1), hgQ, ?_, fun k hk => ?_⟩
                          · exact HKB.out.step HG5.out.keeps (fun k hk => by
                              rcases Nat.lt_or_ge k w.heap.size with h | h
                              · refine .inl (.inl ?_)
                                have := HSM.out k h
                                unfold Wr at hk ⊢
                                omega
                              · exact .inr h)
                          · rw [HG5.out.same k (Nat.lt_of_lt_of_le hk HKB.out.size)]
                            exact HSM.out k hk
                      · skip
                        refine step_make rfl _ _ 25 rfl 5 (.int .u8 0) 1 Tryd.underlying25 Tryd.infoU8z rfl .i64 .i64 128 128 128 128 rfl rfl rfl rfl (by decide) (by decide) (by unfold maxLen; decide) ?_
                        intro g12 w12 hg12 hb12 qk
                        clear hg12
                        replace hb12 : Blk w12 g12 (byteV zsec) 5 := byteV_zsec ▸ hb12
                        refine (fun hHeld => hK _ _ hHeld ?_) (⟨(hKw.trans qk).cell q0 (fun h => h), (hKw.trans qk).cell q2 (fun h => h)⟩)
                        clear hK
                        try simp only [Act.put, List.setIfInBounds_toArray, List.set_cons_zero, List.set_cons_succ]
                        replace hKw := hKw.trans qk
                        refine onlyL (i := 7) rfl (by kernel_rfl) (fun K hK => ?_)
                        go_simp
                        refine (HHW.out _ Q9 _ nx ((writes_len _ _ _).trans HL2.out) (HDv.out.keep0 hKw) (HSv.out.keep hKw (fun h => h))).mono ?_
                        rintro e w7 ⟨rfl, rfl⟩
                        refine (fun hHeld => hK _ _ hHeld ?_) (⟨hKw.cell q0 (fun h => h), hKw.cell q2 (fun h => h)⟩)
                        clear hK
                        try simp only [Act.put, List.setIfInBounds_toArray, List.set_cons_zero, List.set_cons_succ]
                        refine takeL (i := 8) (v := _) rfl (by kernel_rfl) (by kernel_rfl) (by kernel_rfl) (fun _ _ _ h => h) (Or.inl ⟨by rfl, by intro w hSw; (try dsimp only at hSw); go_simp; try with_reducible rfl⟩) (by assumption) ?_
                        try simp only [Act.put, List.setIfInBounds_toArray, List.set_cons_zero, List.set_cons_succ]
                        refine takeL (i := 9) (v := _) rfl (by kernel_rfl) (by kernel_rfl) (by kernel_rfl) (fun _ _ _ h => h) (Or.inl ⟨by rfl, by intro w hSw; (try dsimp only at hSw); go_simp; try with_reducible rfl⟩) (by assumption) ?_
                        try simp only [Act.put, List.setIfInBounds_toArray, List.set_cons_zero, List.set_cons_succ]
                        refine takeL (i := 11) (v := _) rfl (by kernel_rfl) (by kernel_rfl) (by kernel_rfl) (fun _ _ _ h => h) (Or.inl ⟨by rfl, by intro w hSw; (try dsimp only at hSw); go_simp; try with_reducible rfl⟩) (by assumption) ?_
                        try simp only [Act.put, List.setIfInBounds_toArray, List.set_cons_zero, List.set_cons_succ]
                        refine onlyL (i := 13) rfl (by kernel_rfl) (fun K hK => ?_)
                        go_simp
                        have hmw := refwrite_walk (HDv.out.keep0 hKw) HOKI.out (by omega) (Fj : Nat) (cb := 128) (hb12.row8 zsec_bytes zsec_len (by omega))
                        rw [HSN.out] at hmw
                        refine hmw.mono ?_
                        clear hmw
                        rintro e w13 ⟨R5, rfl, hM5, hG5⟩
                        refine (fun hHeld => hK _ _ hHeld ?_) (⟨hG5.keeps.cell (hKw.cell q0 (fun h => h)) (wr_not (by rw [HGv.out.same g HSB.out.lt]; exact HR7.out.1)), hG5.keeps.cell (hKw.cell q2 (fun h => h)) (wr_not (by rw [HGv.out.same go HBB.out.lt]; exact HOQ.out))⟩)
                        clear hK
                        try simp only [Act.put, List.setIfInBounds_toArray, List.set_cons_zero, List.set_cons_succ]
                        refine takeL (i := 14) (v := _) rfl (by kernel_rfl) (by kernel_rfl) (by kernel_rfl) (fun _ _ _ h => h) (Or.inl ⟨by rfl, by intro w hSw; (try dsimp only at hSw); go_simp; try with_reducible rfl⟩) (by assumption) ?_
                        try simp only [Act.put, List.setIfInBounds_toArray, List.set_cons_zero, List.set_cons_succ]
                        refine wpAnyH_done (by kernel_rfl) ?_ _
                        have HG5 := Lib.hid (HGv.out.trans ((grew_nil hKw).trans hG5))
                        have HM5 := Lib.hid hM5
                        clear hM5 hG5 HDv HSN HSv HGv hKw hb12 q0 q2
                        cases wx with
                        | none =>
                          rw [HC0.out]
                          have HW1 := Lib.hid (And.intro (show IsRef w13 q R5 (D2.writes F0 ((secsL (List.replicate mn 0)).take (i + 1))).1 by rw [HSM2.out]; exact HM5.out) (show (D2.writes F0 ((secsL (List.replicate mn 0)).take (i + 1))).2 = none by rw [HSM2.out]))
                          clear HSM2 HM5
                          go_wp2_with fail
                          go_roundw
                          case rel => first | exact ⟨i + 1, R5, by go_num, by omega, Lib.hid HW1.out.1, Lib.hid HW1.out.2, HG5⟩ | ((repeat apply Exists.intro); exact ⟨⟨i + 1, R5, by go_num, by omega, Lib.hid HW1.out.1, Lib.hid HW1.out.2, HG5⟩, rfl⟩)
                          case measure => first | (simp [intOf]; done) | (simp [intOf]; omega)
                        | some k =>
                          have hall : D2.writes F0 (secsL (List.replicate mn 0)) = (D3, some k) := by
                            rw [← HSM2.out]
                            conv => lhs; rw [← List.take_append_drop (i + 1) (secsL (List.replicate mn 0))]
                            exact writes_err _ _ _ _ (by rw [HSM2.out]; simp)
                          have hpu : D2.puts F0 (List.replicate mn 0) = (D3, some k) := by
                            unfold Dk.puts
                            rw [hall, if_neg (by simp)]
                          have HSV : Hid (d.save s b = (D3, nx, some k)) := Lib.hid (save_3 HNF.out HPU.out HNXE.out HP2.out HM0.out (by rw [← HF0.out.2, ← HMS.out.1]; exact hpu))
                          obtain ⟨C, hC, hcn⟩ : ∃ C, C = codeO (some k) ∧ (C == 0) = false := ⟨_, rfl, by rw [beq_eq_false_iff_ne]; show 101 + (k : Int) ≠ 0; omega⟩
                          have HC := Lib.hid hC
                          rw [← hC]
                          clear hall hpu hC HSM2
                          go_wp2_with fail
                          go_ret
                          have hgQ : R5 g = 0 := by rw [HG5.out.same g HSB.out.lt]; exact HR7.out.1
                          show RSaveP w q g Q (d.save s b) _ _
                          rw [HSV.out]
                          refine ⟨R5, by rw [HC.out]; rfl, HM5.out, HSB.out.keep HG5.out.keeps (wr_not HR7.out.1), hgQ, ?_, fun k hk => ?_⟩
                          · exact HKB.out.step HG5.out.keeps (fun k hk => by
                              rcases Nat.lt_or_ge k w.heap.size with h | h
                              · refine .inl (.inl ?_)
                                have := HSM.out k h
                                unfold Wr at hk ⊢
                                omega
                              · exact .inr h)
                          · rw [HG5.out.same k (Nat.lt_of_lt_of_le hk HKB.out.size)]
                            exact HSM.out k hk
                    · obtain rfl : i = T0 := by omega
                      have hii : ¬ ((i : Int) < i) := by omega
                      have hall : (secsL (List.replicate mn 0)).take i = secsL (List.replicate mn 0) := List.take_of_length_le (by rw [secsZ_len, ← HMS.out.2.2]; exact Nat.le_refl _)
                      have hsy := refsync_walk hDi.out HOKI.out (by omega)
                      rw [hall] at hsy hNi
                      obtain ⟨D3, o3', hD3⟩ : ∃ D o, (D2.writes F0 (secsL (List.replicate mn 0))).1.sync = (D, o) := ⟨_, _, rfl⟩
                      have hpu : D2.puts F0 (List.replicate mn 0) = (D3, o3') := by unfold Dk.puts; rw [if_pos hNi.out, hD3]
                      rw [hD3] at hsy
                      have HSY := Lib.hid hsy
                      have HSV : Hid (d.save s b = (D3, nx, o3')) := Lib.hid (save_3 HNF.out HPU.out HNXE.out HP2.out HM0.out (by rw [← HF0.out.2, ← HMS.out.1]; exact hpu))
                      clear hall hsy hD3 hpu p3 p2 hDi HOKI
                      go_wp2_with fail
                      refine HSY.out.mono ?_
                      rintro e w5 ⟨rfl, hD5, hk5⟩
                      have hgQ : Q9 g = 0 := by rw [hGi.out.same g HSB.out.lt]; exact HR7.out.1
                      have HF := Lib.hid (show RSaveP w q g Q (d.save s b) (.returned (.int .i64 (codeO o3'))) w5 from by
                        rw [HSV.out]
                        refine ⟨Q9, rfl, hD5, HSi.out.keep hk5 (wr_not hgQ), hgQ, ?_, fun k hk => ?_⟩
                        · exact HKB.out.step (hGi.out.trans (grew_of hk5)).keeps (fun k hk => by
                            rcases Nat.lt_or_ge k w.heap.size with h | h
                            · refine .inl (.inl ?_)
                              have := HSM.out k h
                              unfold Wr at hk ⊢
                              omega
                            · exact .inr h)
                        · rw [hGi.out.same k (Nat.lt_of_lt_of_le hk HKB.out.size)]
                          exact HSM.out k hk)
                      clear hD5 hk5 hgQ
                      generalize codeO o3' = C at *
                      go_wp2_with fail
                      go_ret
                      exact HF.out
end Go.Proofs.YtkefbgkdkmkghaaDoor
