/-
  The law TrapCalls' walk.
-/
import Derived.Test.YtdkfhfflhglmaaaDoorTrapFirst
namespace Go.Proofs.YtdkfhfflhglmaaaDoor
open Go.RowKit

/-- What a pointer's cell holds. -/
def cellAt (w : World) (v : Value) : Value := match v with
  | .pointer (some a) => (w.cell? a).getD undef
  | _ => undef

/-- The closure that is tried: it throws the error, or nothing, by the number's last bit. -/
theorem callsIn_walk {w : World} {p : Nat → Addr} (gl gi ge bb off : Nat) (len cap j k : Nat) (f : Int) (cl : w.cell? ⟨gl, 0, none⟩ = some (.slice (some ⟨bb, off, none⟩) len cap)) (ci : w.cell? ⟨gi, 0, none⟩ = some (.int .i64 j))
    (ce : w.cell? ⟨ge, 0, none⟩ = some (errV p k)) (hj : j < len) (hc : w.cell? ⟨bb, off + j, none⟩ = some (.int .i64 f)) :
    Calls Tryd.prog 73 #[.pointer (some ⟨gl, 0, none⟩), .pointer (some ⟨gi, 0, none⟩), .pointer (some ⟨ge, 0, none⟩)] w fun e w' =>
      (if bits .and .i64 f 1 == 0 then e = .panicked (chainOf (thrownV (errV p k))) else e = .returned (.tuple #[])) ∧ w = w' := by
  have hj0 : (0 : Int) ≤ j := by omega
  have hj1 : (j : Int) < len := by omega
  by_cases hz : (bits .and .i64 f 1 == 0) = true
  · simp only [hz, if_true]
    unfold errV at ce
    go_enter Tryd.func73, Tryd.ntmps73
    go_wp2_with fail
    refine (must_err _ _ _).mono ?_
    rintro e w1 ⟨rfl, rfl⟩
    go_wp2
    exact ⟨rfl, rfl, rfl⟩
  · have hz' : (bits .and .i64 f 1 == 0) = false := by simpa using hz
    simp only [hz', Bool.false_eq_true, if_false]
    go_enter Tryd.func73, Tryd.ntmps73
    go_wp2_with fail
    go_end0
    exact ⟨rfl, rfl⟩

set_option maxRecDepth 20000 in
set_option maxHeartbeats 1600000 in
theorem calls_walk {w : World} {p : Nat → Addr} (hE : Errs w p) (a : Option Addr) (len cap : Nat) (zs : List Int) (hrow : Row .i64 w a len zs) :
    Calls Tryd.prog 18 #[.slice a len cap] w (TrueT w) := by
  have hmf : ∀ (fn : Fn) (first cap : Array Value) (w : World), (Instr.makeFunc fn first cap).run Tryd.prog w = .ok (.func fn first cap) w := fun _ _ _ _ => rfl
  have hmost := hrow.most
  go_enter Tryd.func18, Tryd.ntmps18
  go_wp2_with fail
  have hgl : Blk ((w.alloc (.cells #[.slice a len cap] 22)).alloc (.cells #[.int .i64 0] 3)) w.heap.size [.slice a len cap] 22 := (Blk.new w [.slice a len cap] _).alloc _
  have hsz : (w.alloc (.cells #[.slice a len cap] 22)).heap.size = w.heap.size + 1 := Array.size_push _
  have hgi : Blk ((w.alloc (.cells #[.slice a len cap] 22)).alloc (.cells #[.int .i64 0] 3)) (w.heap.size + 1) [.int .i64 0] 3 := Blk.new' _ _ _ hsz.symm
  have hk0 : Keeps Nil w ((w.alloc (.cells #[.slice a len cap] 22)).alloc (.cells #[.int .i64 0] 3)) := ((Keeps.refl Nil w).alloc _).alloc _
  generalize hgl0 : w.heap.size = gl at *
  generalize (w.alloc (.cells #[.slice a len cap] 22)).alloc (.cells #[.int .i64 0] 3) = wz at *
  go_loopw [3] (fun v wr => ∃ (j g : Nat), j ≤ len ∧ v = .pointer (some ⟨g, 0, none⟩) ∧ Blk wr g [.int .i64 j] 3 ∧ Blk wr gl [.slice a len cap] 22 ∧ gl < g ∧ Hid (Keeps Nil w wr)) (fun v wr => len - (intOf (cellAt wr v)).toNat)
  case atStart => exact ⟨0, gl + 1, Nat.zero_le _, rfl, hgi, hgl, Nat.lt_succ_self _, hk0⟩
  case round =>
    obtain ⟨j, g, hj, rfl, hbi, hbl, hlt, hkr⟩ := hrel
    have ci := hbi.cell 0 (v := .int .i64 j) rfl
    have cl := hbl.cell 0 (v := .slice a len cap) rfl
    have hcm : cellAt wr (.pointer (some ⟨g, 0, none⟩)) = .int .i64 j := by simp [cellAt, ci]
    have HM := Lib.hid hcm
    clear hcm hgl hgi hk0
    by_cases hjl : j < len
    · obtain ⟨bb, off, rfl, hbb, hc⟩ := hrow.cell (by omega)
      have hcell := hkr.out.cell (hc j hjl) (fun h => h)
      have hf := i64_wf (hrow.wf _ (hrow.at_ hjl))
      clear hc
      generalize zs.getD j 0 = f at *
      have hj0 : (0 : Int) ≤ j := by omega
      have hj1 : (j : Int) < len := by omega
      go_wp2_with fail
      refine (errs_walk (hE.keep hkr.out) f (by omega) (by omega)).mono ?_
      generalize (f % 10).toNat = kk
      rintro e w1 ⟨rfl, hk1⟩
      have hk1' := hkr.out.trans hk1
      have ci1 := hk1.cell ci (fun h => h)
      have cl1 := hk1.cell cl (fun h => h)
      have hb1 := hbi.keep0 hk1
      have hbl1 := hbl.keep0 hk1
      have hc1 := hk1.cell hcell (fun h => h)
      have hek := eI_lt kk
      generalize eI kk = ek at *
      clear hk1 hkr
      have HX := Lib.hid (And.intro ci (And.intro cl (And.intro hbi (And.intro hbl hcell))))
      clear ci cl hbi hbl hcell
      unfold errV
      go_wp2_with fail
      have hbe : Blk (w1.alloc (.cells #[errV p ek] 28)) w1.heap.size [errV p ek] 28 := Blk.new w1 [errV p ek] _
      have hka : Keeps Nil w1 (w1.alloc (.cells #[errV p ek] 28)) := (Keeps.refl Nil w1).alloc _
      change Calls _ _ _ (w1.alloc (.cells #[errV p ek] 28)) _
      have hbi2 := hb1.keep0 hka
      have hbl2 := hbl1.keep0 hka
      have hc2 := hka.cell hc1 (fun h => h)
      have hk2 := hk1'.trans hka
      generalize hge : w1.heap.size = ge at *
      generalize w1.alloc (.cells #[errV p ek] 28) = w2 at *
      refine (try_walk 73 #[.pointer (some ⟨gl, 0, none⟩), .pointer (some ⟨g, 0, none⟩), .pointer (some ⟨ge, 0, none⟩)] w2 (fun _ => by kernel_rfl) ((hE.keep hk2).at_ 5 (by decide)) ⟨_, _, rfl⟩ (S := Nil) (fun _ h => h.elim) (R := fun r w3 => r = if bits .and .i64 f 1 == 0 then errV p ek else .nilIface) (fun w3 h3 _ => (callsIn_walk gl g ge bb off len cap j ek f ((hbl2.keep0 h3).cell 0 rfl) ((hbi2.keep0 h3).cell 0 rfl) ((hbe.keep0 h3).cell 0 rfl) hjl (h3.cell hc2 (fun h => h))).mono ?_)).mono ?_
      · intro e w4 ⟨he, hw⟩
        subst hw
        by_cases hz : (bits .and .i64 f 1 == 0) = true
        · rw [if_pos hz] at he
          rw [hz]
          exact ⟨_, .inr (.inl ⟨_, _, he, rfl⟩), Keeps.refl _ _, rfl⟩
        · rw [if_neg hz] at he
          rw [if_neg hz]
          exact ⟨_, .inl ⟨he, rfl⟩, Keeps.refl _ _, rfl⟩
      rintro e w5 ⟨r, w4, rfl, hr, _, hk5⟩
      have hbi5 := hbi2.keep0 hk5
      have hbl5 := hbl2.keep0 hk5
      have hc5 := hk5.cell hc2 (fun h => h)
      have hk6 := hk2.trans hk5
      clear hbe hka hk1' hk2 hk5 hc2 hbi2 hbl2 hb1 hbl1 hc1 ci1 cl1
      by_cases hz : (bits .and .i64 f 1 == 0) = true
      · simp only [hz, if_true] at hr
        subst hr
        unfold errV
        go_wp2_with fail
        refine (none_walk _).mono ?_
        rintro e w6 ⟨rfl, hk7⟩
        have hbi6 := hbi5.keep0 hk7
        have hbl6 := hbl5.keep0 hk7
        have hc6 := hk7.cell hc5 (fun h => h)
        have hk8 := hk6.trans hk7
        clear hbi5 hbl5 hc5 hk6 hk7
        have hbf : Blk (w6.alloc (.cells #[.int .i64 0, .bool false, .int .i64 0] 57)) w6.heap.size [.int .i64 0, .bool false, .int .i64 0] 57 := Blk.new w6 [.int .i64 0, .bool false, .int .i64 0] _
        have hka : Keeps Nil w6 (w6.alloc (.cells #[.int .i64 0, .bool false, .int .i64 0] 57)) := (Keeps.refl Nil w6).alloc _
        have hbi7 := hbi6.keep0 hka
        have hbl7 := hbl6.keep0 hka
        have hne1 := Nat.ne_of_lt hbi6.lt
        have hne2 := Nat.ne_of_lt hbl6.lt
        have hk9 := hk8.trans hka
        have ci := hbi7.cell 0 (v := .int .i64 j) rfl
        have cl := hbl7.cell 0 (v := .slice (some ⟨bb, off, none⟩) len cap) rfl
        have hc7 := hka.cell hc6 (fun h => h)
        have hk8' := hk8.size
        clear hka hbi6 hbl6 hc6 hk8
        go_wp2_with fail
        refine (bare_walk _ _).mono ?_
        rintro e w8 ⟨rfl, hk10⟩
        have hbf8 := hbf.keep0 hk10
        have hbi8 := hbi7.keep0 hk10
        have hbl8 := hbl7.keep0 hk10
        have hk11 := hk9.trans hk10
        have hgf0 : w.heap.size ≤ w6.heap.size := hk8'
        have hS : sameF (101 + ek) false 0 (101 + ek) false 0 = true := by simp [sameF]
        have HS := Lib.hid hS
        clear hS hbf hbi7 hbl7 hk9 hk10
        generalize hgf : w6.heap.size = gf at *
        clear hgf
        go_wp2_with (refine wpl_store rfl 57 _ _ rfl gf rfl [.int .i64 (101 + ek), .bool false, .int .i64 0] rfl hbf8 rfl Tryd.sizeFault (by simp [Value.oneCell']) ?_)
        intro w9 hb9 hk12 hs9
        have hbi9 := hbi8.keep hk12 hne1
        have hbl9 := hbl8.keep hk12 hne2
        have hk9' := hk11.step hk12 (fun i hi => .inr (by rw [show i = gf from hi]; exact hgf0))
        clear hk12 hbi8 hbl8 hk11
        go_wp2_with (refine wpl_load rfl 57 _ rfl gf rfl hb9 _ Tryd.underlying57 rfl Tryd.sizeFault ?_)
        go_wp2_with fail
        refine (same_walk (hE.keep hk9') (.inr (.inl ⟨ek, hek, rfl, rfl, rfl, rfl⟩)) (101 + ek) false 0).mono ?_
        rintro e w10 ⟨rfl, hk12⟩
        rw [HS.out]
        have hbi10 := hbi9.keep0 hk12
        have hbl10 := hbl9.keep0 hk12
        have hk13 := hk9'.trans hk12
        have c10 := hbi10.cell 0 (v := .int .i64 j) rfl
        have hnew := Nat.ne_of_lt hbi10.lt
        have hltg := hbi10.lt
        go_wp2_with fail
        have hB10 := Blk.new w10 [.int .i64 (j + 1 : Nat)] 3
        have hbl11 := hbl10.alloc (.cells #[.int .i64 (j + 1 : Nat)] 3)
        have hk14 := hk13.alloc (.cells #[.int .i64 (j + 1 : Nat)] 3)
        have hlg : gl < w10.heap.size := by omega
        have cB := hB10.cell 0 (v := .int .i64 (j + 1 : Nat)) rfl
        have hm1 : cellAt (w10.alloc (.cells #[.int .i64 (j + 1 : Nat)] 3)) (.pointer (some ⟨w10.heap.size, 0, none⟩)) = .int .i64 (j + 1 : Nat) := by
          show (World.cell? _ _).getD undef = _
          rw [cB]
          rfl
        have hcast : ((j : Int) + 1) = ((j + 1 : Nat) : Int) := by omega
        rw [hcast]
        go_roundw
        case rel => exact ⟨j + 1, w10.heap.size, hjl, rfl, hB10, hbl11, hlg, hk14⟩
        case measure =>
          rw [hm1, HM.out]
          simp [intOf]
          omega
      · have hz' : (bits .and .i64 f 1 == 0) = false := by simpa using hz
        simp only [hz', Bool.false_eq_true, if_false] at hr
        subst hr
        go_wp2_with fail
        refine (none_walk _).mono ?_
        rintro e w6 ⟨rfl, hk7⟩
        have hbi6 := hbi5.keep0 hk7
        have hbl6 := hbl5.keep0 hk7
        have hc6 := hk7.cell hc5 (fun h => h)
        have hk8 := hk6.trans hk7
        clear hbi5 hbl5 hc5 hk6 hk7
        have hbf : Blk (w6.alloc (.cells #[.int .i64 0, .bool false, .int .i64 0] 57)) w6.heap.size [.int .i64 0, .bool false, .int .i64 0] 57 := Blk.new w6 [.int .i64 0, .bool false, .int .i64 0] _
        have hka : Keeps Nil w6 (w6.alloc (.cells #[.int .i64 0, .bool false, .int .i64 0] 57)) := (Keeps.refl Nil w6).alloc _
        have hbi7 := hbi6.keep0 hka
        have hbl7 := hbl6.keep0 hka
        have hne1 := Nat.ne_of_lt hbi6.lt
        have hne2 := Nat.ne_of_lt hbl6.lt
        have hk9 := hk8.trans hka
        have ci := hbi7.cell 0 (v := .int .i64 j) rfl
        have cl := hbl7.cell 0 (v := .slice (some ⟨bb, off, none⟩) len cap) rfl
        have hc7 := hka.cell hc6 (fun h => h)
        have hk8' := hk8.size
        clear hka hbi6 hbl6 hc6 hk8
        go_wp2_with (refine wpl_load rfl 57 _ rfl w6.heap.size rfl hbf _ Tryd.underlying57 rfl Tryd.sizeFault ?_)
        have hbi9 := hbi7
        have hbl9 := hbl7
        have hk9' := hk9
        have HS : Hid (sameF 0 false 0 0 false 0 = true) := by exact (by decide : sameF 0 false 0 0 false 0 = true)
        go_wp2_with fail
        refine (same_walk (hE.keep hk9') (.inl ⟨rfl, rfl, rfl, rfl⟩) 0 false 0).mono ?_
        rintro e w10 ⟨rfl, hk12⟩
        rw [HS.out]
        have hbi10 := hbi9.keep0 hk12
        have hbl10 := hbl9.keep0 hk12
        have hk13 := hk9'.trans hk12
        have c10 := hbi10.cell 0 (v := .int .i64 j) rfl
        have hnew := Nat.ne_of_lt hbi10.lt
        have hltg := hbi10.lt
        go_wp2_with fail
        have hB10 := Blk.new w10 [.int .i64 (j + 1 : Nat)] 3
        have hbl11 := hbl10.alloc (.cells #[.int .i64 (j + 1 : Nat)] 3)
        have hk14 := hk13.alloc (.cells #[.int .i64 (j + 1 : Nat)] 3)
        have hlg : gl < w10.heap.size := by omega
        have cB := hB10.cell 0 (v := .int .i64 (j + 1 : Nat)) rfl
        have hm1 : cellAt (w10.alloc (.cells #[.int .i64 (j + 1 : Nat)] 3)) (.pointer (some ⟨w10.heap.size, 0, none⟩)) = .int .i64 (j + 1 : Nat) := by
          show (World.cell? _ _).getD undef = _
          rw [cB]
          rfl
        have hcast : ((j : Int) + 1) = ((j + 1 : Nat) : Int) := by omega
        rw [hcast]
        go_roundw
        case rel => exact ⟨j + 1, w10.heap.size, hjl, rfl, hB10, hbl11, hlg, hk14⟩
        case measure =>
          rw [hm1, HM.out]
          simp [intOf]
          omega
    · obtain rfl : j = len := by omega
      go_wp2_with fail
      go_ret
      exact ⟨rfl, hkr.out⟩

theorem trapCallsIn_walk {w : World} {p : Nat → Addr} (hE : Errs w p) (gl : Nat) (a : Option Addr) (len cap : Nat) (zs : List Int) (hrow : Row .i64 w a len zs) (cl : w.cell? ⟨gl, 0, none⟩ = some (.slice a len cap)) :
    Calls Tryd.prog 17 #[.pointer (some ⟨gl, 0, none⟩)] w (TrueT w) := by
  go_enter Tryd.func17, Tryd.ntmps17
  go_wp2_with fail
  refine (calls_walk hE a len cap zs hrow).mono ?_
  rintro e w1 ⟨rfl, hk1⟩
  go_wp2_with fail
  go_ret
  exact ⟨rfl, hk1⟩

set_option maxRecDepth 20000 in
set_option maxHeartbeats 800000 in
theorem trapCalls_walk (a0 : Option Addr) (len0 cap0 : Nat) (z0 : List Int) (w : World) (w0 : IsRow .i64 w a0 len0 cap0 z0) {p : Nat → Addr} (hE : Errs w p) :
    Calls Tryd.prog 3 #[.slice a0 len0 cap0] w (TrueT w) := by
  have hmf : ∀ (fn : Fn) (first cap : Array Value) (w : World), (Instr.makeFunc fn first cap).run Tryd.prog w = .ok (.func fn first cap) w := fun _ _ _ _ => rfl
  have hrow := Row.of_isRow w0
  have hmost := hrow.most
  clear w0
  generalize z0.take len0 = zs at *
  have hka : Keeps Nil w (w.alloc (.cells #[.slice a0 len0 cap0] 22)) := (Keeps.refl Nil w).alloc _
  have hb := Blk.new w [.slice a0 len0 cap0] 22
  go_enter Tryd.func3, Tryd.ntmps3
  go_wp2_with fail
  refine (trapfirst_walk (hE.keep hka)).mono ?_
  rintro e w1 ⟨rfl, hk1⟩
  have hk2 := hka.trans hk1
  have hb1 := hb.keep0 hk1
  have c1 := hb1.cell 0 (v := .slice a0 len0 cap0) rfl
  generalize hg : w.heap.size = gl at *
  by_cases hl : 30 < len0
  · go_wp2_with fail
    go_ret
    exact ⟨rfl, hk2⟩
  · go_wp2_with fail
    refine (calm_walk 17 #[.pointer (some ⟨gl, 0, none⟩)] w1 (fun _ => by kernel_rfl) true (fun w3 h3 => trapCallsIn_walk ((hE.keep hk2).keep h3) gl a0 len0 cap0 zs ((hrow.keep hk2).keep h3) ((hb1.keep0 h3).cell 0 rfl))).mono ?_
    rintro e w4 ⟨rfl, hk4⟩
    go_wp2_with fail
    go_ret
    exact ⟨rfl, hk2.trans hk4⟩
end Go.Proofs.YtdkfhfflhglmaaaDoor
