/-
  The law TrapCatches' walk.
-/
import Derived.Test.YtdkfhfflhglmaaaDoorTrapCaught
namespace Go.Proofs.YtdkfhfflhglmaaaDoor
open Go.RowKit

structure Four (w : World) (gh ga gb gf : Nat) (h a b f : Int) : Prop where
  how : Blk w gh [.int .i64 h] 3
  at_ : Blk w ga [.int .i64 a] 3
  before : Blk w gb [.int .i64 b] 3
  after : Blk w gf [.int .i64 f] 3
  ne : gh ≠ ga ∧ gh ≠ gb ∧ gh ≠ gf ∧ ga ≠ gb ∧ ga ≠ gf ∧ gb ≠ gf
theorem Four.keep {w w' : World} {gh ga gb gf : Nat} {h a b f : Int} (x : Four w gh ga gb gf h a b f) (hk : Keeps Nil w w') : Four w' gh ga gb gf h a b f :=
  ⟨x.how.keep0 hk, x.at_.keep0 hk, x.before.keep0 hk, x.after.keep0 hk, x.ne⟩
theorem Four.put1 {w : World} {gh ga gb gf : Nat} {h a b f : Int} (x : Four w gh ga gb gf h a b f) (b' : Int) : Four (w.setCell ⟨gb, 0, none⟩ (.int .i64 b')) gh ga gb gf h a b' f := by
  have hk : Keeps (One gb) w (w.setCell ⟨gb, 0, none⟩ (.int .i64 b')) := (Keeps.refl (One gb) w).setOne 0 _
  exact ⟨x.how.keep hk (fun e => x.ne.2.1 e), x.at_.keep hk (fun e => x.ne.2.2.2.1 e), x.before.set 0 _, x.after.keep hk (fun e => x.ne.2.2.2.2.2 e.symm), x.ne⟩
theorem Four.put2 {w : World} {gh ga gb gf : Nat} {h a b f : Int} (x : Four w gh ga gb gf h a b f) (f' : Int) : Four (w.setCell ⟨gf, 0, none⟩ (.int .i64 f')) gh ga gb gf h a b f' := by
  have hk : Keeps (One gf) w (w.setCell ⟨gf, 0, none⟩ (.int .i64 f')) := (Keeps.refl (One gf) w).setOne 0 _
  exact ⟨x.how.keep hk (fun e => x.ne.2.2.1 e), x.at_.keep hk (fun e => x.ne.2.2.2.2.1 e), x.before.keep hk (fun e => x.ne.2.2.2.2.2 e), x.after.set 0 _, x.ne⟩
theorem Four.put0 {w : World} {gh ga gb gf : Nat} {h a b f : Int} (x : Four w gh ga gb gf h a b f) (h' : Int) : Four (w.setCell ⟨gh, 0, none⟩ (.int .i64 h')) gh ga gb gf h' a b f := by
  have hk : Keeps (One gh) w (w.setCell ⟨gh, 0, none⟩ (.int .i64 h')) := (Keeps.refl (One gh) w).setOne 0 _
  exact ⟨x.how.set 0 _, x.at_.keep hk (fun e => x.ne.1 e.symm), x.before.keep hk (fun e => x.ne.2.1 e.symm), x.after.keep hk (fun e => x.ne.2.2.1 e.symm), x.ne⟩
def fourWorld (w : World) (h a b f : Int) : World :=
  (((w.alloc (.cells #[.int .i64 h] 3)).alloc (.cells #[.int .i64 a] 3)).alloc (.cells #[.int .i64 b] 3)).alloc (.cells #[.int .i64 f] 3)
theorem fourWorld_is (w : World) (h a b f : Int) : Four (fourWorld w h a b f) w.heap.size (w.heap.size + 1) (w.heap.size + 1 + 1) (w.heap.size + 1 + 1 + 1) h a b f ∧ Keeps Nil w (fourWorld w h a b f) := by
  unfold fourWorld
  generalize h1 : w.alloc (.cells #[.int .i64 h] 3) = w1
  generalize h2 : w1.alloc (.cells #[.int .i64 a] 3) = w2
  generalize h3 : w2.alloc (.cells #[.int .i64 b] 3) = w3
  generalize h4 : w3.alloc (.cells #[.int .i64 f] 3) = w4
  have s1 : w1.heap.size = w.heap.size + 1 := by rw [← h1]; exact size_alloc _ _
  have s2 : w2.heap.size = w1.heap.size + 1 := by rw [← h2]; exact size_alloc _ _
  have s3 : w3.heap.size = w2.heap.size + 1 := by rw [← h3]; exact size_alloc _ _
  have k1 : Keeps Nil w w1 := by rw [← h1]; exact (Keeps.refl Nil w).alloc _
  have k2 : Keeps Nil w1 w2 := by rw [← h2]; exact (Keeps.refl Nil w1).alloc _
  have k3 : Keeps Nil w2 w3 := by rw [← h3]; exact (Keeps.refl Nil w2).alloc _
  have k4 : Keeps Nil w3 w4 := by rw [← h4]; exact (Keeps.refl Nil w3).alloc _
  have b1 : Blk w1 w.heap.size [.int .i64 h] 3 := by rw [← h1]; exact Blk.new w [.int .i64 h] _
  have b2 : Blk w2 (w.heap.size + 1) [.int .i64 a] 3 := by rw [← h2]; exact Blk.new' w1 [.int .i64 a] _ (by omega)
  have b3 : Blk w3 (w.heap.size + 1 + 1) [.int .i64 b] 3 := by rw [← h3]; exact Blk.new' w2 [.int .i64 b] _ (by omega)
  have b4 : Blk w4 (w.heap.size + 1 + 1 + 1) [.int .i64 f] 3 := by rw [← h4]; exact Blk.new' w3 [.int .i64 f] _ (by omega)
  exact ⟨⟨((b1.keep0 k2).keep0 k3).keep0 k4, (b2.keep0 k3).keep0 k4, b3.keep0 k4, b4, by omega⟩, ((k1.trans k2).trans k3).trans k4⟩

set_option maxRecDepth 20000 in
set_option maxHeartbeats 4000000 in
theorem trapCatches_walk (a0 a1 a2 a3 a4 : Int) (w : World) (w0 : (Lit.int .i64 a0).wf = true) (w1 : (Lit.int .i64 a1).wf = true) (_w2 : (Lit.int .i64 a2).wf = true) (w3 : (Lit.int .i64 a3).wf = true) (w4 : (Lit.int .i64 a4).wf = true) {p : Nat → Addr} (hE : Errs w p) :
    Calls Tryd.prog 4 #[.int .i64 a0, .int .i64 a1, .int .i64 a2, .int .i64 a3, .int .i64 a4] w (TrueT w) := by
  have hmf : ∀ (fn : Fn) (first cap : Array Value) (w : World), (Instr.makeFunc fn first cap).run Tryd.prog w = .ok (.func fn first cap) w := fun _ _ _ _ => rfl
  have r0 := i64_wf w0
  have r1 := i64_wf w1
  have r3 := i64_wf w3
  have r4 := i64_wf w4
  clear w0 w1 w3 w4
  obtain ⟨hV, hk0⟩ := fourWorld_is w a0 a2 a3 a4
  go_enter Tryd.func4, Tryd.ntmps4
  go_wp2_with fail
  change Calls _ _ _ (fourWorld w a0 a2 a3 a4) _
  generalize fourWorld w a0 a2 a3 a4 = wv at *
  have hge : w.heap.size ≤ w.heap.size + 1 + 1 + 1 := by omega
  have hge2 : w.heap.size ≤ w.heap.size + 1 + 1 := by omega
  generalize w.heap.size + 1 + 1 + 1 = gf at *
  generalize w.heap.size + 1 + 1 = gb at *
  generalize w.heap.size + 1 = ga at *
  generalize hgh : w.heap.size = gh at *
  refine (trapfirst_walk (hE.keep hk0)).mono ?_
  rintro e wa ⟨rfl, hka⟩
  have hV1 := hV.keep hka
  have hk1 := hk0.trans hka
  clear hV hk0 hka
  have cb := hV1.before.cell 0 (v := .int .i64 a3) rfl
  have zb := hV1.before.frozen 0
  go_wp2_with fail
  refine (number_walk a3 50 _ (by omega) (by omega) (by omega) (by omega)).mono ?_
  rintro e wb ⟨rfl, rfl⟩
  have hb0 : 0 ≤ a3 % 50 := Int.emod_nonneg _ (by omega)
  have hb1 : a3 % 50 < 50 := Int.emod_lt_of_pos _ (by omega)
  generalize a3 % 50 = bb at *
  have hV2 := hV1.put1 bb
  have hk2 := hk1.setCell (p := ⟨gb, 0, none⟩) (.inr (by rw [hgh]; exact hge2)) (.int .i64 bb)
  have cf := hV2.after.cell 0 (v := .int .i64 a4) rfl
  have zf := hV2.after.frozen 0
  clear hV1 hk1
  go_wp2_with fail
  refine (number_walk a4 50 _ (by omega) (by omega) (by omega) (by omega)).mono ?_
  generalize wa.setCell ⟨gb, 0, none⟩ (.int .i64 bb) = wc at *
  rintro e wd ⟨rfl, rfl⟩
  have hf0 : 0 ≤ a4 % 50 := Int.emod_nonneg _ (by omega)
  have hf1 : a4 % 50 < 50 := Int.emod_lt_of_pos _ (by omega)
  generalize a4 % 50 = ff at *
  have hV3 := hV2.put2 ff
  have hk3 := hk2.setCell (p := ⟨gf, 0, none⟩) (.inr (by rw [hgh]; exact hge)) (.int .i64 ff)
  clear hV2 hk2
  go_wp2_with fail
  generalize wc.setCell ⟨gf, 0, none⟩ (.int .i64 ff) = we at *
  refine (errs_walk (hE.keep hk3) a1 (by omega) (by omega)).mono ?_
  generalize (a1 % 10).toNat = kk
  rintro e wg ⟨rfl, hkg⟩
  have hV4 := hV3.keep hkg
  have hk4 := hk3.trans hkg
  clear hV3 hk3 hkg
  have hek := eI_lt kk
  generalize eI kk = ek at *
  have hsz := size_alloc wg (.cells #[errV p ek] 28)
  have hbe : Blk ((wg.alloc (.cells #[errV p ek] 28)).alloc (.cells #[.int .i64 (101 + ek)] 3)) wg.heap.size [errV p ek] 28 := (Blk.new wg [errV p ek] _).alloc _
  have hbc : Blk ((wg.alloc (.cells #[errV p ek] 28)).alloc (.cells #[.int .i64 (101 + ek)] 3)) (wg.heap.size + 1) [.int .i64 (101 + ek)] 3 := Blk.new' _ [.int .i64 (101 + ek)] _ hsz.symm
  have hka : Keeps Nil wg ((wg.alloc (.cells #[errV p ek] 28)).alloc (.cells #[.int .i64 (101 + ek)] 3)) := ((Keeps.refl Nil wg).alloc _).alloc _
  have hV5 := hV4.keep hka
  have hk5 := hk4.trans hka
  have hgg : w.heap.size ≤ gh := by omega
  have hlg : gh < wg.heap.size := hV4.how.lt
  clear hV4 hk4 hka hsz
  have ch := hV5.how.cell 0 (v := .int .i64 a0) rfl
  have zh := hV5.how.frozen 0
  unfold errV at ch zh ⊢
  go_wp2_with fail
  change Calls _ _ _ ((wg.alloc (.cells #[errV p ek] 28)).alloc (.cells #[.int .i64 (101 + ek)] 3)) _
  generalize (wg.alloc (.cells #[errV p ek] 28)).alloc (.cells #[.int .i64 (101 + ek)] 3) = wi at *
  refine (number_walk a0 9 _ (by omega) (by omega) (by omega) (by omega)).mono ?_
  rintro e wj ⟨rfl, rfl⟩
  have hh0 : 0 ≤ a0 % 9 := Int.emod_nonneg _ (by omega)
  have hh1 : a0 % 9 < 9 := Int.emod_lt_of_pos _ (by omega)
  generalize a0 % 9 = hh at *
  have ch2 := hV5.how.cell 0 (v := .int .i64 a0) rfl
  have zh2 := hV5.how.frozen 0
  have hV6 := hV5.put0 hh
  have hk6 := hk5.setCell (p := ⟨gh, 0, none⟩) (.inr hgg) (.int .i64 hh)
  have hke : Keeps (One gh) wi (wi.setCell ⟨gh, 0, none⟩ (.int .i64 hh)) := (Keeps.refl (One gh) wi).setOne 0 _
  have hbe2 := hbe.keep hke (fun h => by have : wg.heap.size = gh := h; omega)
  have hbc2 := hbc.keep hke (fun h => by have : wg.heap.size + 1 = gh := h; omega)
  clear hV5 hk5 hbe hbc hke ch zh
  generalize hgE : wg.heap.size = gE at *
  obtain ⟨nb, rfl⟩ := Int.eq_ofNat_of_zero_le hb0
  obtain ⟨nf, rfl⟩ := Int.eq_ofNat_of_zero_le hf0
  obtain ⟨nh, rfl⟩ := Int.eq_ofNat_of_zero_le hh0
  go_wp2_with fail
  generalize wi.setCell ⟨gh, 0, none⟩ (.int .i64 (nh : Int)) = wk at *
  refine (calm_walk 21 _ wk (fun _ => by kernel_rfl) true (fun w7 h7 => ?_)).mono ?_
  · have hV7 := hV6.keep h7
    exact trapCatchesIn_walk hE (hk6.trans h7) gh (gE + 1) ga gb gf gE nh ek nb nf a2 (by omega) (by omega) (by omega) hek
      (hV7.how.cell 0 rfl) ((hbc2.keep0 h7).cell 0 rfl) (hV7.at_.cell 0 rfl) (hV7.before.cell 0 rfl) (hV7.after.cell 0 rfl) ((hbe2.keep0 h7).cell 0 rfl)
  rintro e w8 ⟨rfl, hk8⟩
  go_wp2_with fail
  go_ret
  exact ⟨rfl, hk6.trans hk8⟩
end Go.Proofs.YtdkfhfflhglmaaaDoor
