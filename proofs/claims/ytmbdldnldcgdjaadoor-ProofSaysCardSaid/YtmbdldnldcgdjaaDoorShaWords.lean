/-
  sha.words.
-/
import Derived.Test.YtmbdldnldcgdjaaDoorShaPlain
import Derived.Test.YtmbdldnldcgdjaaDoorVars
import Derived.Test.YtmbdldnldcgdjaaDoorStill
namespace Go.Proofs.YtmbdldnldcgdjaaDoor
set_option linter.unusedSimpArgs false
set_option linter.unusedVariables false
open Go.RowKit

theorem Tryd.infoW64 : (Tryd.prog.info? 75).map (·.size) = some 64 := by kernel_rfl
theorem Tryd.undW64 : Tryd.prog.underlying 75 = some (.array 64 68) := by kernel_rfl
theorem Tryd.zeroW64 (w : World) : (zeroValue 75).run Tryd.prog w = .ok (.agg (wordV (wlUp [] 0)).toArray) w := by kernel_rfl
def WordsPost (l : List Int) (w : World) (e : Ending) (w' : World) : Prop := e = .returned (.agg (wordV (wl l 64)).toArray) ∧ Keeps Nil w w'
theorem wlUp0 (l : List Int) : wlUp [] 0 = wlUp l 0 := rfl
theorem still_same {P : Program} {f : FuncId} {args : Array Value} {w : World} {v : Value} (h : Calls P f args w fun e w' => e = .returned v ∧ w = w') : Calls P f args w fun e w' => e = .returned v ∧ w' = w := h.mono fun _ _ h => ⟨h.1, h.2.symm⟩

set_option maxRecDepth 20000 in
set_option maxHeartbeats 3200000 in
theorem words_walk {w : World} {a : Option Addr} {cap : Nat} {l : List Int} (h : Row .u8 w a 64 l) (hcap : 64 ≤ cap) :
    Calls Tryd.prog 50 #[.slice a 64 cap] w (WordsPost l w) := by
  have hzv := Tryd.zeroW64
  rw [wlUp0 l] at hzv
  obtain ⟨bb, off, rfl, hbb, hc⟩ := h.cell (by omega)
  have hl := h.llen
  have hV := ((Has.nil w).cons (wordV (wlUp l 0)) 75 rfl).cons (wordV (wlUp l 0)) 75 (n := w.heap.size + 1) (by simp [size_alloc'])
  have hk : Keeps Nil w ((w.alloc (.cells (wordV (wlUp l 0)).toArray 75)).alloc (.cells (wordV (wlUp l 0)).toArray 75)) := ((Keeps.refl Nil w).alloc _).alloc _
  have hB1 := hV.at 1 rfl
  have hB2 := hV.at 0 rfl
  have HB := Lib.hid (fun i (hi : i < 64) => u8_wf (h.wf _ (h.at_ hi)))
  have HC := Lib.hid (fun i (hi : i < 64) => hk.cell (hc i hi) (fun h => h))
  clear hV hc h
  go_enter Tryd.func50, Tryd.ntmps50
  go_wp2_with fail
  change Code.wp _ _ _ _ ((w.alloc (.cells (wordV (wlUp l 0)).toArray 75)).alloc (.cells (wordV (wlUp l 0)).toArray 75))
  generalize (w.alloc (.cells (wordV (wlUp l 0)).toArray 75)).alloc (.cells (wordV (wlUp l 0)).toArray 75) = wz at *
  have hlt : w.heap.size < w.heap.size + 1 := by omega
  generalize w.heap.size + 1 = gk at *
  generalize hgr : w.heap.size = gr at *
  go_loopw [8] (fun v wr => ∃ j : Nat, j ≤ 16 ∧ v = .int .i64 j ∧ Blk wr gk (wordV (wlUp l j)) 75 ∧ Hid (Keeps (One gk) wz wr)) (fun v _ => 16 - (intOf v).toNat)
  case atStart => exact ⟨0, by omega, rfl, hB2, Keeps.refl _ _⟩
  case round =>
    obtain ⟨j, hj, rfl, hB, hkr⟩ := hrel
    clear hB2
    by_cases hjl : j < 16
    · have hne : ∀ b, b = bb → ¬ One gk b := fun b hb e => by have : b = gk := e; omega
      have c0 := hkr.out.cell (HC.out (4 * j) (by omega)) (hne _ rfl)
      have c1 := hkr.out.cell (HC.out (4 * j + 1) (by omega)) (hne _ rfl)
      have c2 := hkr.out.cell (HC.out (4 * j + 2) (by omega)) (hne _ rfl)
      have c3 := hkr.out.cell (HC.out (4 * j + 3) (by omega)) (hne _ rfl)
      have b0 := HB.out (4 * j) (by omega)
      have b1 := HB.out (4 * j + 1) (by omega)
      have b2 := HB.out (4 * j + 2) (by omega)
      have b3 := HB.out (4 * j + 3) (by omega)
      have hs := wlUp_succ l j (by omega) _ rfl
      rw [if_pos hjl] at hs
      have hcx := hB.cell j (wordV_at _ _ (by rw [wlUp_len l j (by omega)]; omega))
      have hzx := hB.frozen j
      generalize (wlUp l j).getD j 0 = xx at *
      generalize l.getD (4 * j) 0 = x0 at *
      generalize l.getD (4 * j + 1) 0 = x1 at *
      generalize l.getD (4 * j + 2) 0 = x2 at *
      generalize l.getD (4 * j + 3) 0 = x3 at *
      have HS := Lib.hid hs
      clear hs hne
      have hj0 : (0 : Int) ≤ j := by omega
      have hj1 : (j : Int) < 16 := by omega
      go_wp2_with fail
      have e0 : IntKind.i64.wrap (4 * (j : Int)) = 4 * (j : Int) := by rw [IntKind.wrap_i64]; omega
      have e1 : IntKind.i64.wrap (4 * (j : Int) + 1) = 4 * (j : Int) + 1 := by rw [IntKind.wrap_i64]; omega
      have e2 : IntKind.i64.wrap (4 * (j : Int) + 2) = 4 * (j : Int) + 2 := by rw [IntKind.wrap_i64]; omega
      have e3 : IntKind.i64.wrap (4 * (j : Int) + 3) = 4 * (j : Int) + 3 := by rw [IntKind.wrap_i64]; omega
      have n0 : (4 * (j : Int)).toNat = 4 * j := by omega
      have n1 : (4 * (j : Int) + 1).toNat = 4 * j + 1 := by omega
      have n2 : (4 * (j : Int) + 2).toNat = 4 * j + 2 := by omega
      have n3 : (4 * (j : Int) + 3).toNat = 4 * j + 3 := by omega
      have p0 : (0 : Int) ≤ 4 * (j : Int) := by omega
      have p1 : (0 : Int) ≤ 4 * (j : Int) + 1 := by omega
      have p2 : (0 : Int) ≤ 4 * (j : Int) + 2 := by omega
      have p3 : (0 : Int) ≤ 4 * (j : Int) + 3 := by omega
      have q0 : 4 * (j : Int) < 64 := by omega
      have q1 : 4 * (j : Int) + 1 < 64 := by omega
      have q2 : 4 * (j : Int) + 2 < 64 := by omega
      have q3 : 4 * (j : Int) + 3 < 64 := by omega
      have hj64 : (j : Int) < 64 := by omega
      go_still_tail 35, (by kernel_rfl)
      change wpList _ _ _ _ _ wr.drew
      clear e0 e1 e2 e3 n0 n1 n2 n3
      go_wp2_with fail
      have hnew := hB.drew.set j (.int .u32 (be4 x0 x1 x2 x3))
      rw [← wordV_set, HS.out] at hnew
      have hkn := hkr.out.drew.setOne j (.int .u32 (be4 x0 x1 x2 x3))
      unfold be4 at hnew hkn
      go_roundw
      case rel => first | exact ⟨j + 1, by omega, by go_num, hnew, hkn⟩ | ((repeat apply Exists.intro); exact ⟨⟨j + 1, by omega, by go_num, hnew, hkn⟩, rfl⟩)
      case measure => simp [intOf]; omega
    · obtain rfl : j = 16 := by omega
      have hk16 := hkr.out
      clear hkr hjl
      have HK := Lib.hid hk16
      clear hk16 HC
      go_wp2_with fail
      go_loopw [5] (fun v wr => ∃ j : Nat, 16 ≤ j ∧ j ≤ 64 ∧ v = .int .i64 j ∧ Blk wr gk (wordV (wlUp l j)) 75 ∧ Hid (Keeps (One gk) wz wr)) (fun v _ => 64 - (intOf v).toNat)
      case atStart => exact ⟨16, by omega, by omega, rfl, hB, HK.out⟩
      case round =>
        obtain ⟨j, hj16, hj, rfl, hB, hkr⟩ := hrel
        clear HK
        by_cases hjl : j < 64
        · have hwl := wlUp_len l j hj
          have g16 := hB.cell (j - 16) (wordV_at _ _ (by omega))
          have g15 := hB.cell (j - 15) (wordV_at _ _ (by omega))
          have g7 := hB.cell (j - 7) (wordV_at _ _ (by omega))
          have g2 := hB.cell (j - 2) (wordV_at _ _ (by omega))
          have hcx := hB.cell j (wordV_at _ _ (by omega))
          have hzx := hB.frozen j
          have hs := wlUp_succ l j hjl _ rfl
          rw [if_neg (by omega)] at hs
          unfold nextW at hs
          rw [← wlUp_getD l j (j - 16) (by omega), ← wlUp_getD l j (j - 15) (by omega), ← wlUp_getD l j (j - 7) (by omega), ← wlUp_getD l j (j - 2) (by omega)] at hs
          have w16 := getD_isW (l := wlUp l j) (fun x hx => by
            unfold wlUp at hx
            rcases List.mem_append.1 hx with hx | hx
            · exact wl_isW l j x hx
            · rw [List.eq_of_mem_replicate hx]; exact ⟨by decide, by decide⟩)
          have b15 := w16 (j - 15)
          have b2 := w16 (j - 2)
          clear w16
          generalize (wlUp l j).getD j 0 = xx at *
          generalize (wlUp l j).getD (j - 16) 0 = x16 at *
          generalize (wlUp l j).getD (j - 15) 0 = x15 at *
          generalize (wlUp l j).getD (j - 7) 0 = x7 at *
          generalize (wlUp l j).getD (j - 2) 0 = x2 at *
          have HS := Lib.hid hs
          clear hs hwl hB1
          have e0 : IntKind.i64.wrap ((j : Int) - 16) = (j : Int) - 16 := by rw [IntKind.wrap_i64]; omega
          have e1 : IntKind.i64.wrap ((j : Int) - 15) = (j : Int) - 15 := by rw [IntKind.wrap_i64]; omega
          have e2 : IntKind.i64.wrap ((j : Int) - 7) = (j : Int) - 7 := by rw [IntKind.wrap_i64]; omega
          have e3 : IntKind.i64.wrap ((j : Int) - 2) = (j : Int) - 2 := by rw [IntKind.wrap_i64]; omega
          have n0 : ((j : Int) - 16).toNat = j - 16 := by omega
          have n1 : ((j : Int) - 15).toNat = j - 15 := by omega
          have n2 : ((j : Int) - 7).toNat = j - 7 := by omega
          have n3 : ((j : Int) - 2).toNat = j - 2 := by omega
          have p0 : (0 : Int) ≤ (j : Int) - 16 := by omega
          have p1 : (0 : Int) ≤ (j : Int) - 15 := by omega
          have p2 : (0 : Int) ≤ (j : Int) - 7 := by omega
          have p3 : (0 : Int) ≤ (j : Int) - 2 := by omega
          have q0 : (j : Int) - 16 < 64 := by omega
          have q1 : (j : Int) - 15 < 64 := by omega
          have q2 : (j : Int) - 7 < 64 := by omega
          have q3 : (j : Int) - 2 < 64 := by omega
          have hj0 : (0 : Int) ≤ j := by omega
          have hj64 : (j : Int) < 64 := by omega
          have r0 : (16 : Int) ≤ j := by omega
          have r1 : (15 : Int) ≤ j := by omega
          have r2 : (7 : Int) ≤ j := by omega
          have r3 : (2 : Int) ≤ j := by omega
          go_wp2_with fail
          go_quiet (fail)
          have hcq : ∀ ad, (wr.drewN nq).cell? ad = wr.cell? ad := fun _ => rfl
          rw [← hcq] at g16 g15 g7 g2 hcx
          have hzq : (wr.drewN nq).frozen? ⟨gk, j, none⟩ = false := hzx
          have hBq := hB.drewN nq
          have hkq := Lib.hid (hkr.out.drewN nq)
          clear hcq hzx hB hkr
          generalize wr.drewN nq = wq at *
          go_wp2_with fail
          go_still_tail 29, (by kernel_rfl)
          still_call (still_same (right_walk x15 7 _ b15.1 b15.2 (by omega) (by omega)))
          repeat still_step
          still_call (still_same (right_walk x15 18 _ b15.1 b15.2 (by omega) (by omega)))
          repeat still_step
          still_call (still_same (right_walk x2 17 _ b2.1 b2.2 (by omega) (by omega)))
          repeat still_step
          still_call (still_same (right_walk x2 19 _ b2.1 b2.2 (by omega) (by omega)))
          repeat still_step
          refine wpStill_nil ?_
          change wpList _ _ _ _ _ wq.drew
          clear e0 e1 e2 e3 n0 n1 n2 n3
          go_wp2_with fail
          have hnew := hBq.drew.set j (.int .u32 ((x16 + sig0 x15 + x7 + sig1 x2) % 4294967296))
          rw [← wordV_set, HS.out] at hnew
          have hkn := hkq.out.drew.setOne j (.int .u32 ((x16 + sig0 x15 + x7 + sig1 x2) % 4294967296))
          unfold sig0 sig1 at hnew hkn
          go_roundw
          case rel => first | exact ⟨j + 1, by omega, by omega, by go_num, hnew, hkn⟩ | ((repeat apply Exists.intro); exact ⟨⟨j + 1, by omega, by omega, by go_num, hnew, hkn⟩, rfl⟩)
          case measure => simp [intOf]; omega
        · obtain rfl : j = 64 := by omega
          rw [wlUp_full] at hB
          have hB1r := hB1.keep hkr.out (fun e => by have : gr = gk := e; omega)
          have hl1 : (wordV (wl l 64)).length = 64 := by rw [wordV_len, wl_len]
          have hl2 : (wordV (wl l 64)).length = (wordV (wlUp l 0)).length := by rw [hl1, wordV_len, wlUp_len l 0 (by omega)]
          have HL := Lib.hid (And.intro hl1 hl2)
          clear hl1 hl2
          go_wp2_with (first | (refine wpl_load rfl 75 _ rfl gk rfl hB _ Tryd.undW64 rfl (by rw [HL.out.1]; exact Tryd.infoW64) ?_) | (refine wpl_store rfl 75 _ _ rfl gr rfl (wordV (wl l 64)) rfl hB1r HL.out.2 (by rw [HL.out.1]; exact Tryd.infoW64) (wordV_one _) ?_))
          intro w3 hb3 hk3 hs3
          go_wp2_with fail
          refine ret_blk Tryd.results50 gr rfl hb3 _ Tryd.undW64 rfl (by rw [HL.out.1]; exact Tryd.infoW64) rfl ⟨rfl, ?_⟩
          exact (hk.step hkr.out (fun i hi => .inr (by rw [show i = gk from hi]; omega))).step hk3 (fun i hi => .inr (by rw [show i = gr from hi]; omega))
end Go.Proofs.YtmbdldnldcgdjaaDoor
