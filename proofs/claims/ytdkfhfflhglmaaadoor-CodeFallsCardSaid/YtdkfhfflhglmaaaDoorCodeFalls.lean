/-
  The law CodeFalls.
-/
import Derived.Test.YtdkfhfflhglmaaaDoorCodeFirst
import Derived.Test.YtdkfhfflhglmaaaDoorVars
namespace Go.Proofs.YtdkfhfflhglmaaaDoor
open Go.RowKit

/-- Where it falls. -/
def fallQ (how len : Nat) : Int := if how = 2 then len else 0
def fallK (how : Nat) : Nat := if how = 1 then 1 else 2
def FallR (gd how len : Nat) (o : Out) (w : World) : Prop := Blk w gd [.bool false] 4 ∧ o = .fell (fallQ how len) (fallK how)

set_option maxRecDepth 20000 in
set_option maxHeartbeats 1600000 in
theorem codeFallsIn_walk {w0 w : World} {p : Nat → Addr} (hE : Errs w0 p) (h0 : Keeps Nil w0 w) {gh gb gd how gr cr len capb : Nat} {ar a : Option Addr} {l : List Int} (hl : l.length = len) (hlen : len ≤ 50) (hhow : how < 3)
    (hh : Blk w gh [.int .i64 how] 3) (hb : Blk w gb [.slice a len capb] 36) (hd : Blk w gd [.bool false] 4) (hr : IsRd 102 w gr ar cr l 0 []) (hgr : w0.heap.size ≤ gr) (hdr : gd ≠ gr) (hbr : gb ≠ gr) :
    Calls Tryd.prog 37 #[.pointer (some ⟨gr, 0, none⟩), .pointer (some ⟨gh, 0, none⟩), .pointer (some ⟨gb, 0, none⟩), .pointer (some ⟨gd, 0, none⟩)] w (ReadIn (One gd) p l gr (FallR gd how len) w) := by
  have ch := hh.cell 0 (v := .int .i64 how) rfl
  have cb := hb.cell 0 (v := .slice a len capb) rfl
  have hE1 := hE.keep h0
  clear hh
  match how, hhow with
  | 0, _ =>
    have HR := Lib.hid (rdRaw_short hE1 hr (len + 1) (by omega) (by omega))
    clear hr hE hE1 h0 hb
    go_enter Tryd.func37, Tryd.ntmps37
    go_wp2_with fail
    refine HR.out.mono ?_
    rintro e w2 ⟨g, rfl, hb2, hge, hk⟩
    go_wp2
    exact ⟨rfl, .inr ⟨_, 2, g, by decide, rfl, hb2, hge, hd.keep0 hk, rfl⟩, hk.nil⟩
  | 1, _ =>
    have HR := Lib.hid (rdRaw_neg hE1 hr (-1) (by omega))
    clear hr hE hE1 h0 hb
    go_enter Tryd.func37, Tryd.ntmps37
    go_wp2_with fail
    refine HR.out.mono ?_
    rintro e w2 ⟨g, rfl, hb2, hge, hk⟩
    go_wp2
    exact ⟨rfl, .inr ⟨_, 1, g, by decide, rfl, hb2, hge, hd.keep0 hk, rfl⟩, hk.nil⟩
  | 2, _ =>
    have HR := Lib.hid (rdRaw_ok hr len (by omega) (by omega))
    clear hr hE1 hb
    go_enter Tryd.func37, Tryd.ntmps37
    go_wp2_with fail
    refine HR.out.mono ?_
    rintro e w2 ⟨a2, c2, rfl, ho2, hf2, h2, hk2⟩
    have hE2 : Errs w2 p := hE.keep (h0.step hk2 (fun i hi => .inr (by rw [show i = gr from hi]; exact hgr)))
    have HS := Lib.hid (rdU8_short hE2 h2 (by omega))
    have hd2 := hd.keep hk2 hdr
    clear HR hE hE2 h0 h2
    go_wp2_with fail
    refine HS.out.mono ?_
    rintro e w3 ⟨g, rfl, hb3, hge, hk3⟩
    go_wp2
    refine ⟨rfl, .inr ⟨_, 2, g, by decide, rfl, hb3, Nat.le_trans hk2.size hge, hd2.keep0 hk3, ?_⟩, (hk2.mono (fun i hi => .inr hi)).step hk3 (fun _ h => h.elim)⟩
    simp [fallQ, fallK]
  | n + 3, h => omega

set_option maxRecDepth 20000 in
set_option maxHeartbeats 4000000 in
theorem codeFalls_walk (a0 : Option Addr) (len0 cap0 : Nat) (z0 : List Int) (a1 : Int) (w : World) (w0 : IsRow .u8 w a0 len0 cap0 z0) (w1 : (Lit.int .i64 a1).wf = true) {p : Nat → Addr} (hE : Errs w p) :
    Calls Tryd.prog 7 #[.slice a0 len0 cap0, .int .i64 a1] w (TrueC w) := by
  have hmf : ∀ (fn : Fn) (first cap : Array Value) (w : World), (Instr.makeFunc fn first cap).run Tryd.prog w = .ok (.func fn first cap) w := fun _ _ _ _ => rfl
  have hr1 := i64_wf w1
  have hrow := Row.of_isRow w0
  have hnil := w0.nil
  clear w0 w1
  generalize z0.take len0 = l at *
  have HNil := Lib.hid hnil
  clear hnil
  have hH0 := (((Has.nil w).cons [.slice a0 len0 cap0] 36 rfl)).cons [.int .i64 a1] 3 (n := w.heap.size + 1) (by rw [size_alloc'])
  have hkA : Keeps Nil w ((w.alloc (.cells #[.slice a0 len0 cap0] 36)).alloc (.cells #[.int .i64 a1] 3)) := ((Keeps.refl Nil w).alloc _).alloc _
  have hszA : ((w.alloc (.cells #[.slice a0 len0 cap0] 36)).alloc (.cells #[.int .i64 a1] 3)).heap.size = w.heap.size + 2 := by rw [size_alloc', size_alloc']
  go_enter Tryd.func7, Tryd.ntmps7
  go_wp2_with fail
  generalize hwA : ((w.alloc (.cells #[.slice a0 len0 cap0] 36)).alloc (.cells #[.int .i64 a1] 3)) = wA at *
  refine (codefirst_walk (hE.keep hkA)).mono ?_
  rintro e wB ⟨rfl, hkB⟩
  have hHB := hH0.keep0 hkB
  have hkAB := hkA.trans hkB
  have hszB : w.heap.size + 2 ≤ wB.heap.size := by rw [← hszA]; exact hkB.size
  have cb := (hHB.at 1 rfl).cell 0 (v := .slice a0 len0 cap0) rfl
  have ch := (hHB.at 0 rfl).cell 0 (v := .int .i64 a1) rfl
  have zh := (hHB.at 0 rfl).frozen 0
  clear hkA hkB hH0 hwA hszA
  by_cases hlen : 50 < len0
  · go_wp2_with fail
    go_ret
    exact ⟨rfl, hkAB⟩
  go_wp2_with fail
  refine (number_walk a1 3 _ hr1.1 hr1.2 (by omega) (by omega)).mono ?_
  rintro e w2 ⟨rfl, rfl⟩
  obtain ⟨how, hhow, hn⟩ : ∃ how : Nat, how < 3 ∧ a1 % 3 = how := ⟨(a1 % 3).toNat, by omega, by omega⟩
  rw [hn]
  have hHC := (hHB.set 0 rfl 0 (.int .i64 how)).cons [.bool false] 4 (n := wB.heap.size) (by simp)
  have cbC := (hHC.at 2 rfl).cell 0 (v := .slice a0 len0 cap0) rfl
  have hkC : Keeps Nil w ((wB.setCell ⟨w.heap.size + 1, 0, none⟩ (.int .i64 how)).alloc (.cells #[.bool false] 4)) := (hkAB.setCell (p := ⟨w.heap.size + 1, 0, none⟩) (.inr (by show w.heap.size ≤ w.heap.size + 1; omega)) _).alloc _
  have hszC : ((wB.setCell ⟨w.heap.size + 1, 0, none⟩ (.int .i64 how)).alloc (.cells #[.bool false] 4)).heap.size = wB.heap.size + 1 := by rw [size_alloc']; simp
  go_wp2_with fail
  generalize hwC : ((wB.setCell ⟨w.heap.size + 1, 0, none⟩ (.int .i64 how)).alloc (.cells #[.bool false] 4)) = wC at *
  have hlt2 : w.heap.size + 1 < wB.heap.size := by omega
  have hgd0 : w.heap.size ≤ wB.heap.size := by omega
  generalize hgh : w.heap.size + 1 = gh at *
  generalize hgd : wB.heap.size = gd at *
  clear hwC cb ch zh hHB hkAB
  refine (lawRead_walk 37 #[.pointer (some ⟨gh, 0, none⟩), .pointer (some ⟨w.heap.size, 0, none⟩), .pointer (some ⟨gd, 0, none⟩)] wC (fun _ _ => by kernel_rfl) hE hkC (hrow.keep hkC) HNil.out (by omega) (S := One gd) (fun k hk => by rw [show k = gd from hk]; omega) (R := fun _ => FallR gd how len0)
    (fun c w3 gr ar cr h3 hc1 hc2 hold hne hrd => ?_)).mono ?_
  · have hH3 := hHC.keep0 h3
    have hgr := hold gr (.inl rfl)
    exact codeFallsIn_walk hE (hkC.trans h3) hrow.llen (by omega) hhow (hH3.at 1 rfl) (hH3.at 2 rfl) (hH3.at 0 rfl) hrd (by omega) (by omega) (by omega)
  rintro e w4 ⟨o, v, c, w5, rfl, hI, hfr, ⟨hd5, ho⟩, hup, hk4, hc⟩
  obtain rfl := ho
  have hHD := hHC.put 0 rfl hk4 (fun x _ h => h) (hd5.keep hup (fun hi => by have := hi.1; omega))
  clear hd5 hup hHC
  have hkD : Keeps Nil w w4 := hkC.step hk4 (fun i hi => .inr (by rw [show i = gd from hi]; exact hgd0))
  clear hk4 hkC
  go_wp2_with fail
  refine (placed_walk 103 0 _ (by omega)).mono ?_
  rintro e w6 ⟨rfl, hk6⟩
  have hHE := (hHD.keep0 hk6).cons [.int .i64 103, .bool true, .int .i64 0] 57 (n := w6.heap.size) rfl
  have hka : Keeps Nil w4 (w6.alloc (.cells #[.int .i64 103, .bool true, .int .i64 0] 57)) := hk6.alloc _
  have hIz := hI.keep hka
  have hkz := hkD.trans hka
  have chE := (hHE.at 2 rfl).cell 0 (v := .int .i64 how) rfl
  have hgF : w.heap.size ≤ w6.heap.size := Nat.le_trans hkD.size hk6.size
  have hnF : ∀ bb, v = .iface 96 (.pointer (some ⟨bb, 0, none⟩)) → ¬ One w6.heap.size bb := fun bb h h2 => by
    have h3 : bb = w6.heap.size := h2
    have h4 := hI.lt bb h
    have h5 := hk6.size
    omega
  clear hka hkD hI hHD hk6
  match how, hhow with
  | 0, _ =>
    have f0 := (hHE.at 0 rfl).cell 0 (v := .int .i64 103) rfl
    have f1 := (hHE.at 0 rfl).cell 1 (v := .bool true) rfl
    have f2 := (hHE.at 0 rfl).cell 2 (v := .int .i64 0) rfl
    have cd := (hHE.at 1 rfl).cell 0 (v := .bool false) rfl
    go_wp2_with fail
    go_wp2_with (refine wpl_load rfl 57 _ rfl w6.heap.size rfl (hHE.at 0 rfl) _ Tryd.underlying57 rfl Tryd.sizeFault ?_)
    go_wp2_with fail
    refine (same_walk (hE.keep hkz) hIz _ _ _).mono ?_
    rintro e w9 ⟨rfl, hk9⟩
    have hS : sameF (outC l.length (.fell (fallQ 0 len0) (fallK 0))) (outP l.length (.fell (fallQ 0 len0) (fallK 0))) (outQ l.length (.fell (fallQ 0 len0) (fallK 0))) 103 true 0 = true := by simp [sameF, outC, outP, outQ, fallK, fallQ]
    rw [hS]
    go_wp2_with fail
    go_ret
    exact ⟨by simp, hkz.trans hk9⟩
  | 1, _ =>
    go_wp2_with fail
    refine (placed_walk 102 0 _ (by omega)).mono ?_
    rintro e w7 ⟨rfl, hk7⟩
    go_wp2_with (refine wpl_store rfl 57 _ _ rfl w6.heap.size rfl [.int .i64 102, .bool true, .int .i64 0] rfl ((hHE.at 0 rfl).keep0 hk7) rfl Tryd.sizeFault (by simp [Value.oneCell']) ?_)
    intro w8 hb8 hk8 hs8
    have hH8 := (hHE.keep0 hk7).put 0 rfl hk8 (fun x _ h => h) hb8
    have hkz := (hkz.trans hk7).step hk8 (fun i hi => .inr (by rw [show i = w6.heap.size from hi]; exact hgF))
    have hIz := (hIz.keep hk7).keepS hk8 hnF
    have f0 := (hH8.at 0 rfl).cell 0 (v := .int .i64 102) rfl
    have f1 := (hH8.at 0 rfl).cell 1 (v := .bool true) rfl
    have f2 := (hH8.at 0 rfl).cell 2 (v := .int .i64 0) rfl
    have cd := (hH8.at 1 rfl).cell 0 (v := .bool false) rfl
    have ch8 := (hH8.at 2 rfl).cell 0 rfl
    go_wp2_with fail
    go_wp2_with (refine wpl_load rfl 57 _ rfl w6.heap.size rfl (hH8.at 0 rfl) _ Tryd.underlying57 rfl Tryd.sizeFault ?_)
    go_wp2_with fail
    refine (same_walk (hE.keep hkz) hIz _ _ _).mono ?_
    rintro e w9 ⟨rfl, hk9⟩
    have hS : sameF (outC l.length (.fell (fallQ 1 len0) (fallK 1))) (outP l.length (.fell (fallQ 1 len0) (fallK 1))) (outQ l.length (.fell (fallQ 1 len0) (fallK 1))) 102 true 0 = true := by simp [sameF, outC, outP, outQ, fallK, fallQ]
    rw [hS]
    go_wp2_with fail
    go_ret
    exact ⟨by simp, hkz.trans hk9⟩
  | 2, _ =>
    have cbE := (hHE.at 3 rfl).cell 0 (v := .slice a0 len0 cap0) rfl
    go_wp2_with fail
    refine (placed_walk 103 len0 _ (by omega)).mono ?_
    rintro e w7 ⟨rfl, hk7⟩
    go_wp2_with (refine wpl_store rfl 57 _ _ rfl w6.heap.size rfl [.int .i64 103, .bool true, .int .i64 len0] rfl ((hHE.at 0 rfl).keep0 hk7) rfl Tryd.sizeFault (by simp [Value.oneCell']) ?_)
    intro w8 hb8 hk8 hs8
    have hH8 := (hHE.keep0 hk7).put 0 rfl hk8 (fun x _ h => h) hb8
    have hkz := (hkz.trans hk7).step hk8 (fun i hi => .inr (by rw [show i = w6.heap.size from hi]; exact hgF))
    have hIz := (hIz.keep hk7).keepS hk8 hnF
    have f0 := (hH8.at 0 rfl).cell 0 (v := .int .i64 103) rfl
    have f1 := (hH8.at 0 rfl).cell 1 (v := .bool true) rfl
    have f2 := (hH8.at 0 rfl).cell 2 (v := .int .i64 len0) rfl
    have cd := (hH8.at 1 rfl).cell 0 (v := .bool false) rfl
    have ch8 := (hH8.at 2 rfl).cell 0 rfl
    go_wp2_with fail
    go_wp2_with (refine wpl_load rfl 57 _ rfl w6.heap.size rfl (hH8.at 0 rfl) _ Tryd.underlying57 rfl Tryd.sizeFault ?_)
    go_wp2_with fail
    refine (same_walk (hE.keep hkz) hIz _ _ _).mono ?_
    rintro e w9 ⟨rfl, hk9⟩
    have hS : sameF (outC l.length (.fell (fallQ 2 len0) (fallK 2))) (outP l.length (.fell (fallQ 2 len0) (fallK 2))) (outQ l.length (.fell (fallQ 2 len0) (fallK 2))) 103 true len0 = true := by simp [sameF, outC, outP, outQ, fallK, fallQ]
    rw [hS]
    go_wp2_with fail
    go_ret
    exact ⟨by simp, hkz.trans hk9⟩
  | n + 3, h => omega
end Go.Proofs.YtdkfhfflhglmaaaDoor
