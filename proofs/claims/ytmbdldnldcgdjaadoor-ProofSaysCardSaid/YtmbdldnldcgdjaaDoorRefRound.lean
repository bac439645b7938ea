/-
  courierref1.round: a block, as the document takes it in: the same as the program's.
-/
import Derived.Test.YtmbdldnldcgdjaaDoorShaHash
namespace Go.Proofs.YtmbdldnldcgdjaaDoor
set_option linter.unusedSimpArgs false
set_option linter.unusedVariables false
open Go.RowKit

theorem bits_or_comm (a b : Int) : bits .or .u32 a b = bits .or .u32 b a := by
  show IntKind.u32.wrap ((BitVec.ofInt 32 a ||| BitVec.ofInt 32 b).toNat : Int) = IntKind.u32.wrap ((BitVec.ofInt 32 b ||| BitVec.ofInt 32 a).toNat : Int)
  rw [BitVec.or_comm]
set_option maxHeartbeats 800000 in
theorem rot_nat (x : Int) (n : Nat) (w : World) (hx : IsW x) (h1 : 1 ≤ n) (h2 : n ≤ 31) : Calls Tryd.prog 38 #[.int .u32 x, .int .u64 n] w fun e w' => e = .returned (.int .u32 (rotr x n)) ∧ w' = w := by
  have hs : IntKind.u64.wrap (32 - (n : Int)) = ((32 - n : Nat) : Int) := by rw [IntKind.wrap_u64]; omega
  have hm : min (32 - n) 32 = 32 - n := by omega
  have hm2 : min n 32 = n := by omega
  have e1 := shift_shl_any .u32 .u64 x ((32 - n : Nat) : Int) (by omega)
  have e2 := shift_shr_any .u32 .u64 x (n : Int) (by omega)
  simp only [Int.toNat_natCast, IntKind.bits, hm, hm2, IntKind.wrap_u32] at e1 e2
  have HR := Lib.hid (show rotr x n = bits .or .u32 (x / 2 ^ n) (x * 2 ^ (32 - n) % 4294967296) from bits_or_comm _ _)
  clear hm hm2
  go_enter Tryd.func38, Tryd.ntmps38
  go_wp2
  go_ret
  exact ⟨by rw [HR.out]; rfl, rfl⟩
theorem rot_int (x c : Int) (w : World) (hx : IsW x) (h1 : 1 ≤ c) (h2 : c ≤ 31) : Calls Tryd.prog 38 #[.int .u32 x, .int .u64 c] w fun e w' => e = .returned (.int .u32 (rotr x c.toNat)) ∧ w' = w := by
  obtain ⟨n, rfl⟩ : ∃ n : Nat, c = n := ⟨c.toNat, by omega⟩
  exact rot_nat x n w hx (by omega) (by omega)
def RoundPost (R : List Int) (w : World) (e : Ending) (w' : World) : Prop := e = .returned (.agg (wordV R).toArray) ∧ Keeps Nil w w'

set_option maxRecDepth 100000 in
set_option maxHeartbeats 6400000 in
theorem round_walk {w : World} {a : Option Addr} {cap : Nat} {l H : List Int} (h : Row .u8 w a 64 l) (hcap : 64 ≤ cap) (hH : H.length = 8) (hHW : ∀ x ∈ H, IsW x) :
    Calls Tryd.prog 32 #[.agg (wordV H).toArray, .slice a 64 cap] w (RoundPost (shaBlock H l) w) := by
  have hzv := Tryd.zeroW64
  have hzv8 := Tryd.zeroW8
  rw [wlUp0 l] at hzv
  obtain ⟨bb, off, rfl, hbb, hc⟩ := h.cell (by omega)
  have hl := h.llen
  have HB := Lib.hid (fun i (hi : i < 64) => u8_wf (h.wf _ (h.at_ hi)))
  have HC := Lib.hid (fun (wx : World) (hk : Keeps Nil w wx) i (hi : i < 64) => hk.cell (hc i hi) (fun h => h))
  have hl1 : (wordV shaK).length = 64 := rfl
  have hl2 : (wordV (wlUp l 0)).length = 64 := by rw [wordV_len, wlUp_len l 0 (by omega)]
  have HBK := Lib.hid Tryd.builtK
  have hone := wordV_one shaK
  have hKK := shaK_len
  have HDEF := Lib.hid (show shaBlock H l = addUp H (rnd H (wl l 64) shaK 64) 8 from rfl)
  generalize hKL : shaK = KL at *
  have HKL := Lib.hid hKL
  clear hKL hc h
  have hA1 := ((Has.nil w).cons (wordV H) 69 rfl).cons (wordV z8) 69 (n := w.heap.size + 1) (by rw [size_alloc'])
  have hA := hA1.cons (wordV (wlUp l 0)) 75 (n := w.heap.size + 2) (by rw [size_alloc', size_alloc'])
  have hkA : Keeps Nil w (((w.alloc (.cells (wordV H).toArray 69)).alloc (.cells (wordV z8).toArray 69)).alloc (.cells (wordV (wlUp l 0)).toArray 75)) := (((Keeps.refl Nil w).alloc _).alloc _).alloc _
  have hsA : (((w.alloc (.cells (wordV H).toArray 69)).alloc (.cells (wordV z8).toArray 69)).alloc (.cells (wordV (wlUp l 0)).toArray 75)).heap.size = w.heap.size + 3 := by rw [size_alloc', size_alloc', size_alloc']
  have hbK0 := hA.at 0 (g := w.heap.size + 2) rfl
  go_enter Tryd.func32, Tryd.ntmps32
  go_wp2_with (first | (refine wpl_build rfl 75 _ rfl (wordV KL) _ HBK.out (by rw [← HKL.out]; kernel_rfl) ?_) | (refine wpl_store rfl 75 _ _ rfl (w.heap.size + 2) rfl (wordV KL) rfl hbK0 (by rw [hl1, hl2]) (by rw [hl1]; exact Tryd.infoW64) hone ?_))
  intro w1 hbK hkS hsS
  have hs1 : w1.heap.size = w.heap.size + 3 := hsS
  have hK1 : Keeps Nil w w1 := hkA.step hkS (fun i hi => .inr (by rw [show i = w.heap.size + 2 from hi]; omega))
  have hbH1 := (hA.at 2 (g := w.heap.size) rfl).keep hkS (fun e => by have : w.heap.size = w.heap.size + 2 := e; omega)
  have hbZ1 := (hA.at 1 (g := w.heap.size + 1) rfl).keep hkS (fun e => by have : w.heap.size + 1 = w.heap.size + 2 := e; omega)
  clear hA hA1 hkA hsA hbK0 hkS hsS hone hl1
  have hkW := (Keeps.refl Nil w1).alloc (.cells (wordV (wlUp l 0)).toArray 75)
  have hbW := Blk.new' (n := w.heap.size + 3) w1 (wordV (wlUp l 0)) 75 hs1.symm
  have hbH := hbH1.keep0 hkW
  have hbZ := hbZ1.keep0 hkW
  have hbKK := hbK.keep0 hkW
  have hKW := hK1.trans hkW
  clear hbH1 hbZ1 hbK hK1 hkW
  go_wp2_with fail
  generalize w1.alloc (.cells (wordV (wlUp l 0)).toArray 75) = w2 at *
  have HCC := Lib.hid (HC.out w2 hKW)
  have hg4 : w.heap.size < w.heap.size + 1 := by omega
  generalize hgh : w.heap.size = gh at *
  have hn1 : gh + 1 ≠ gh + 3 := by omega
  have hn2 : gh + 2 ≠ gh + 3 := by omega
  have hn3 : gh ≠ gh + 3 := by omega
  have hbg : bb ≠ gh + 3 := by omega
  go_loopw [7] (fun v wr => ∃ j : Nat, j ≤ 16 ∧ v = .int .i64 j ∧ Blk wr (gh + 3) (wordV (wlUp l j)) 75 ∧ Hid (Keeps (One (gh + 3)) w2 wr)) (fun v _ => 16 - (intOf v).toNat)
  case atStart => exact ⟨0, by omega, rfl, hbW, Keeps.refl _ _⟩
  case round =>
    obtain ⟨j, hj, rfl, hB, hkr⟩ := hrel
    clear hbW
    by_cases hjl : j < 16
    · have hne : ∀ b, b = bb → ¬ One (gh + 3) b := fun b hb e => by have : b = gh + 3 := e; omega
      have c0 := hkr.out.cell (HCC.out (4 * j) (by omega)) (hne _ rfl)
      have c1 := hkr.out.cell (HCC.out (4 * j + 1) (by omega)) (hne _ rfl)
      have c2 := hkr.out.cell (HCC.out (4 * j + 2) (by omega)) (hne _ rfl)
      have c3 := hkr.out.cell (HCC.out (4 * j + 3) (by omega)) (hne _ rfl)
      have b0 := HB.out (4 * j) (by omega)
      have b1 := HB.out (4 * j + 1) (by omega)
      have b2 := HB.out (4 * j + 2) (by omega)
      have b3 := HB.out (4 * j + 3) (by omega)
      have hs := wlUp_succ l j (by omega) _ rfl
      rw [if_pos hjl] at hs
      have hcx := hB.cell j (wordV_at _ _ (by rw [wlUp_len l j (by omega)]; omega))
      have hzx := hB.frozen j
      generalize (wlUp l j).getD j 0 = xx at *
      generalize l.getD (4 * j) 0 = x0 at *
      generalize l.getD (4 * j + 1) 0 = x1 at *
      generalize l.getD (4 * j + 2) 0 = x2 at *
      generalize l.getD (4 * j + 3) 0 = x3 at *
      have HS := Lib.hid hs
      clear hs hne
      have hj0 : (0 : Int) ≤ j := by omega
      have hj1 : (j : Int) < 16 := by omega
      go_wp2_with fail
      have e0 : IntKind.i64.wrap (4 * (j : Int)) = 4 * (j : Int) := by rw [IntKind.wrap_i64]; omega
      have e1 : IntKind.i64.wrap (4 * (j : Int) + 1) = 4 * (j : Int) + 1 := by rw [IntKind.wrap_i64]; omega
      have e2 : IntKind.i64.wrap (4 * (j : Int) + 2) = 4 * (j : Int) + 2 := by rw [IntKind.wrap_i64]; omega
      have e3 : IntKind.i64.wrap (4 * (j : Int) + 3) = 4 * (j : Int) + 3 := by rw [IntKind.wrap_i64]; omega
      have n0 : (4 * (j : Int)).toNat = 4 * j := by omega
      have n1 : (4 * (j : Int) + 1).toNat = 4 * j + 1 := by omega
      have n2 : (4 * (j : Int) + 2).toNat = 4 * j + 2 := by omega
      have n3 : (4 * (j : Int) + 3).toNat = 4 * j + 3 := by omega
      have p0 : (0 : Int) ≤ 4 * (j : Int) := by omega
      have p1 : (0 : Int) ≤ 4 * (j : Int) + 1 := by omega
      have p2 : (0 : Int) ≤ 4 * (j : Int) + 2 := by omega
      have p3 : (0 : Int) ≤ 4 * (j : Int) + 3 := by omega
      have q0 : 4 * (j : Int) < 64 := by omega
      have q1 : 4 * (j : Int) + 1 < 64 := by omega
      have q2 : 4 * (j : Int) + 2 < 64 := by omega
      have q3 : 4 * (j : Int) + 3 < 64 := by omega
      have hj64 : (j : Int) < 64 := by omega
      go_still_tail 35, (by kernel_rfl)
      change wpList _ _ _ _ _ wr.drew
      clear e0 e1 e2 e3 n0 n1 n2 n3
      go_wp2_with fail
      have hnew := hB.drew.set j (.int .u32 (be4 x0 x1 x2 x3))
      rw [← wordV_set, HS.out] at hnew
      have hkn := hkr.out.drew.setOne j (.int .u32 (be4 x0 x1 x2 x3))
      unfold be4 at hnew hkn
      go_roundw
      case rel => first | exact ⟨j + 1, by omega, by go_num, hnew, hkn⟩ | ((repeat apply Exists.intro); exact ⟨⟨j + 1, by omega, by go_num, hnew, hkn⟩, rfl⟩)
      case measure => simp [intOf]; omega
    · obtain rfl : j = 16 := by omega
      have HK := Lib.hid hkr.out
      clear hkr hjl HCC
      go_wp2_with fail
      go_loopw [8] (fun v wr => ∃ j : Nat, 16 ≤ j ∧ j ≤ 64 ∧ v = .int .i64 j ∧ Blk wr (gh + 3) (wordV (wlUp l j)) 75 ∧ Hid (Keeps (One (gh + 3)) w2 wr)) (fun v _ => 64 - (intOf v).toNat)
      case atStart => exact ⟨16, by omega, by omega, rfl, hB, HK.out⟩
      case round =>
        obtain ⟨j, hj16, hj, rfl, hB, hkr⟩ := hrel
        clear HK
        by_cases hjl : j < 64
        · have hwl := wlUp_len l j hj
          have g16 := hB.cell (j - 16) (wordV_at _ _ (by omega))
          have g15 := hB.cell (j - 15) (wordV_at _ _ (by omega))
          have g7 := hB.cell (j - 7) (wordV_at _ _ (by omega))
          have g2 := hB.cell (j - 2) (wordV_at _ _ (by omega))
          have hcx := hB.cell j (wordV_at _ _ (by omega))
          have hzx := hB.frozen j
          have hs := wlUp_succ l j hjl _ rfl
          rw [if_neg (by omega)] at hs
          unfold nextW at hs
          rw [← wlUp_getD l j (j - 16) (by omega), ← wlUp_getD l j (j - 15) (by omega), ← wlUp_getD l j (j - 7) (by omega), ← wlUp_getD l j (j - 2) (by omega)] at hs
          have w16 := getD_isW (l := wlUp l j) (fun x hx => by
            unfold wlUp at hx
            rcases List.mem_append.1 hx with hx | hx
            · exact wl_isW l j x hx
            · rw [List.eq_of_mem_replicate hx]; exact ⟨by decide, by decide⟩)
          have b15 := w16 (j - 15)
          have b2 := w16 (j - 2)
          clear w16
          generalize (wlUp l j).getD j 0 = xx at *
          generalize (wlUp l j).getD (j - 16) 0 = x16 at *
          generalize (wlUp l j).getD (j - 15) 0 = x15 at *
          generalize (wlUp l j).getD (j - 7) 0 = x7 at *
          generalize (wlUp l j).getD (j - 2) 0 = x2 at *
          have HS := Lib.hid hs
          clear hs hwl
          have e0 : IntKind.i64.wrap ((j : Int) - 16) = (j : Int) - 16 := by rw [IntKind.wrap_i64]; omega
          have e1 : IntKind.i64.wrap ((j : Int) - 15) = (j : Int) - 15 := by rw [IntKind.wrap_i64]; omega
          have e2 : IntKind.i64.wrap ((j : Int) - 7) = (j : Int) - 7 := by rw [IntKind.wrap_i64]; omega
          have e3 : IntKind.i64.wrap ((j : Int) - 2) = (j : Int) - 2 := by rw [IntKind.wrap_i64]; omega
          have n0 : ((j : Int) - 16).toNat = j - 16 := by omega
          have n1 : ((j : Int) - 15).toNat = j - 15 := by omega
          have n2 : ((j : Int) - 7).toNat = j - 7 := by omega
          have n3 : ((j : Int) - 2).toNat = j - 2 := by omega
          have p0 : (0 : Int) ≤ (j : Int) - 16 := by omega
          have p1 : (0 : Int) ≤ (j : Int) - 15 := by omega
          have p2 : (0 : Int) ≤ (j : Int) - 7 := by omega
          have p3 : (0 : Int) ≤ (j : Int) - 2 := by omega
          have q0 : (j : Int) - 16 < 64 := by omega
          have q1 : (j : Int) - 15 < 64 := by omega
          have q2 : (j : Int) - 7 < 64 := by omega
          have q3 : (j : Int) - 2 < 64 := by omega
          have hj0 : (0 : Int) ≤ j := by omega
          have hj64 : (j : Int) < 64 := by omega
          have r0 : (16 : Int) ≤ j := by omega
          have r1 : (15 : Int) ≤ j := by omega
          have r2 : (7 : Int) ≤ j := by omega
          have r3 : (2 : Int) ≤ j := by omega
          go_wp2_with fail
          go_quiet ((go_at_call 38; exact Calls.quiet_of_same (rot_int _ _ _ b15 (by decide) (by decide))))
          have hcq : ∀ ad, (wr.drewN nq).cell? ad = wr.cell? ad := fun _ => rfl
          rw [← hcq] at g16 g15 g7 g2 hcx
          have hbka := hB.drewN nq
          have ka := Lib.hid (hkr.out.drewN nq)
          clear hcq
          generalize wr.drewN nq = wa at *
          go_wp2_with fail
          go_quiet ((go_at_call 38; exact Calls.quiet_of_same (rot_int _ _ _ b2 (by decide) (by decide))))
          have hcq : ∀ ad, (wa.drewN nq).cell? ad = wa.cell? ad := fun _ => rfl
          rw [← hcq] at g16 g15 g7 g2 hcx
          have hbkb := hbka.drewN nq
          have kb := Lib.hid (ka.out.drewN nq)
          clear hcq
          generalize wa.drewN nq = wb at *
          have hzb := hbkb.frozen j
          clear hzx
          go_wp2_with fail
          go_still_tail 15, (by kernel_rfl)
          change wpList _ _ _ _ _ wb.drew
          clear e0 e1 e2 e3 n0 n1 n2 n3
          go_wp2_with fail
          have hnew := hbkb.drew.set j (.int .u32 ((x16 + sig0 x15 + x7 + sig1 x2) % 4294967296))
          rw [← wordV_set, HS.out] at hnew
          have hkn := kb.out.drew.setOne j (.int .u32 ((x16 + sig0 x15 + x7 + sig1 x2) % 4294967296))
          unfold sig0 sig1 at hnew hkn
          go_roundw
          case rel => first | exact ⟨j + 1, by omega, by omega, by go_num, hnew, hkn⟩ | ((repeat apply Exists.intro); exact ⟨⟨j + 1, by omega, by omega, by go_num, hnew, hkn⟩, rfl⟩)
          case measure => simp [intOf]; omega
        · obtain rfl : j = 64 := by omega
          rw [wlUp_full] at hB
          have hWL := wl_len l 64
          generalize hWW : wl l 64 = WL at *
          have hbHr := hbH.keep hkr.out (fun e => hn3 e)
          have hbZr := hbZ.keep hkr.out (fun e => hn1 e)
          have hbKr := hbKK.keep hkr.out (fun e => hn2 e)
          have hK4 : Keeps Nil w wr := hKW.step hkr.out (fun i hi => .inr (by rw [show i = gh + 3 from hi]; omega))
          have hDEF := HDEF.out
          have HDF := Lib.hid hDEF
          have hlH : (wordV H).length = 8 := by rw [wordV_len, hH]
          have honeH := wordV_one H
          have hUW := Tryd.undW8
          have hIW : (Tryd.prog.info? 69).map (·.size) = some (wordV H).length := by rw [hlH]; exact Tryd.infoW8
          have hka := (Keeps.refl Nil wr).alloc (.cells (wordV z8).toArray 69)
          have hb8 := Blk.new wr (wordV z8) 69
          have hbHa := hbHr.keep0 hka
          have hbZa := hbZr.keep0 hka
          have hbKa := hbKr.keep0 hka
          have hbWa := hB.keep0 hka
          have hlt3 := hB.lt
          clear hWW hbH hbZ hbKK hKW hkr hbZr hbKr hB hDEF hjl
          go_wp2_with (first | (refine wpl_load rfl 69 _ rfl gh rfl hbHr _ hUW rfl hIW ?_) | (refine wpl_store rfl 69 _ _ rfl wr.heap.size rfl (wordV H) rfl hb8 (by rw [hlH]; rfl) hIW honeH ?_))
          intro w5 hb11 hk5 hs5
          have hne5 : ∀ q, q < wr.heap.size → q ≠ wr.heap.size := fun q hq e => by omega
          have hbH5 := hbHa.keep hk5 (fun e => by have : gh = wr.heap.size := e; omega)
          have hbZ5 := hbZa.keep hk5 (fun e => by have : gh + 1 = wr.heap.size := e; omega)
          have hbK5 : Blk w5 (gh + 1 + 1) (wordV KL) 75 := hbKa.keep hk5 (fun e => by have : gh + 2 = wr.heap.size := e; omega)
          have hbW5 := hbWa.keep hk5 (fun e => by have : gh + 3 = wr.heap.size := e; omega)
          have hK5 : Keeps Nil w w5 := (hK4.trans hka).step hk5 (fun i hi => .inr (by rw [show i = wr.heap.size from hi]; exact hK4.size))
          have hgg : gh ≤ wr.heap.size := by omega
          clear hka hb8 hbHa hbZa hbKa hbWa hbHr hk5 hs5 hK4 hUW hIW honeH hlH hne5
          generalize hg11 : wr.heap.size = g11 at *
          have hm1 : gh + 1 + 1 ≠ g11 := by omega
          have hm2 : gh + 3 ≠ g11 := by omega
          have hm3 : gh ≠ g11 := by omega
          have hm4 : gh + 1 ≠ g11 := by omega
          have HWL := Lib.hid hWL
          have HKK := Lib.hid hKK
          clear hWL hKK
          go_wp2_with fail
          go_loopw [12] (fun v wr => ∃ j : Nat, j ≤ 64 ∧ v = .int .i64 j ∧ Blk wr g11 (wordV (rnd H WL KL j)) 69 ∧ Hid (Keeps (One g11) w5 wr)) (fun v _ => 64 - (intOf v).toNat)
          case atStart => exact ⟨0, by omega, rfl, hb11, Keeps.refl _ _⟩
          case round =>
            obtain ⟨j, hj, rfl, hB, hkr⟩ := hrel
            clear hb11
            by_cases hjl : j < 64
            · have hx4 := (hbW5.keep hkr.out (fun e => hm2 e)).cell j (wordV_at _ _ (by have := HWL.out; omega))
              have hx5 := (hbK5.keep hkr.out (fun e => hm1 e)).cell j (wordV_at _ _ (by have := HKK.out; omega))
              have hst := rnd_succ H WL KL j
              have hwS := rnd_isW H WL KL hHW j
              obtain ⟨s0, s1, s2, s3, s4, s5, s6, s7, hS⟩ := eight (rnd_len H WL KL hH j)
              rw [hS] at hB hst hwS
              have c0 := hB.cell 0 (v := .int .u32 s0) rfl
              have c1 := hB.cell 1 (v := .int .u32 s1) rfl
              have c2 := hB.cell 2 (v := .int .u32 s2) rfl
              have c3 := hB.cell 3 (v := .int .u32 s3) rfl
              have c4 := hB.cell 4 (v := .int .u32 s4) rfl
              have c5 := hB.cell 5 (v := .int .u32 s5) rfl
              have c6 := hB.cell 6 (v := .int .u32 s6) rfl
              have c7 := hB.cell 7 (v := .int .u32 s7) rfl
              have w0 : IsW s0 := hwS s0 (by simp)
              have w4' : IsW s4 := hwS s4 (by simp)
              generalize WL.getD j 0 = x at *
              generalize KL.getD j 0 = k at *
              have HST := Lib.hid hst
              clear hst hwS hS hbW5 hbK5
              have hj0 : (0 : Int) ≤ j := by omega
              have hj1 : (j : Int) < 64 := by omega
              have hsg : IntKind.u32.signed = false := rfl
              go_wp2_with fail
              go_quiet ((go_at_call 38; exact Calls.quiet_of_same (rot_int _ _ _ w4' (by decide) (by decide))))
              have hcq : ∀ ad, (wr.drewN nq).cell? ad = wr.cell? ad := fun _ => rfl
              rw [← hcq] at c0 c1 c2 c3 c4 c5 c6 c7 hx4 hx5
              have hbka := hB.drewN nq
              have ka := Lib.hid (hkr.out.drewN nq)
              clear hcq
              generalize wr.drewN nq = wa at *
              go_wp2_with fail
              go_quiet (fail)
              have hcq : ∀ ad, (wa.drewN nq).cell? ad = wa.cell? ad := fun _ => rfl
              rw [← hcq] at c0 c1 c2 c3 c4 c5 c6 c7 hx4 hx5
              have hbkb := hbka.drewN nq
              have kb := Lib.hid (ka.out.drewN nq)
              clear hcq
              generalize wa.drewN nq = wb at *
              go_wp2_with fail
              go_quiet ((go_at_call 38; exact Calls.quiet_of_same (rot_int _ _ _ w0 (by decide) (by decide))))
              have hcq : ∀ ad, (wb.drewN nq).cell? ad = wb.cell? ad := fun _ => rfl
              rw [← hcq] at c0 c1 c2 c3 c4 c5 c6 c7 hx4 hx5
              have hbkc := hbkb.drewN nq
              have kc := Lib.hid (kb.out.drewN nq)
              clear hcq
              generalize wb.drewN nq = wc at *
              have h1 : ((s7 + bits .xor .u32 (bits .xor .u32 (rotr s4 6) (rotr s4 11)) (rotr s4 25) + bits .xor .u32 (bits .and .u32 s4 s5) (bits .and .u32 (bits .xor .u32 IntKind.u32.max s4) s6) + k) % 4294967296 + x) % 4294967296 = oneW [s0, s1, s2, s3, s4, s5, s6, s7] k x := by
                show _ = (s7 + bits .xor .u32 (bits .xor .u32 (rotr s4 6) (rotr s4 11)) (rotr s4 25) + bits .xor .u32 (bits .and .u32 s4 s5) (bits .and .u32 (bits .xor .u32 IntKind.u32.max s4) s6) + k + x) % 4294967296
                omega
              have h2 : bits .xor .u32 (bits .xor .u32 (rotr s0 2) (rotr s0 13)) (rotr s0 22) = bsig0 s0 := rfl
              rw [h1, h2]
              clear h1 h2
              have hst := HST.out
              have hst2 : stepS [s0, s1, s2, s3, s4, s5, s6, s7] k x = [(oneW [s0, s1, s2, s3, s4, s5, s6, s7] k x + (bsig0 s0 + majW s0 s1 s2) % 4294967296) % 4294967296, s0, s1, s2, (s3 + oneW [s0, s1, s2, s3, s4, s5, s6, s7] k x) % 4294967296, s4, s5, s6] := rfl
              rw [hst2, show (oneW [s0, s1, s2, s3, s4, s5, s6, s7] k x + (bsig0 s0 + majW s0 s1 s2) % 4294967296) % 4294967296 = (oneW [s0, s1, s2, s3, s4, s5, s6, s7] k x + bsig0 s0 + majW s0 s1 s2) % 4294967296 by omega] at hst
              clear HST hst2
              unfold majW at hst
              generalize oneW [s0, s1, s2, s3, s4, s5, s6, s7] k x = one at *
              generalize bsig0 s0 = z0 at *
              have HST := Lib.hid hst
              clear hst
              have HB8 := Lib.hid (Tryd.built8 ((one + z0 + bits .xor .u32 (bits .xor .u32 (bits .and .u32 s0 s1) (bits .and .u32 s0 s2)) (bits .and .u32 s1 s2)) % 4294967296) s0 s1 s2 ((s3 + one) % 4294967296) s4 s5 s6)
              go_wp2_with (first | (refine wpl_build rfl 69 _ rfl (wordV [(one + z0 + bits .xor .u32 (bits .xor .u32 (bits .and .u32 s0 s1) (bits .and .u32 s0 s2)) (bits .and .u32 s1 s2)) % 4294967296, s0, s1, s2, (s3 + one) % 4294967296, s4, s5, s6]) _ HB8.out (by simp [Act.eval]) ?_) | (refine wpl_store rfl 69 _ _ rfl g11 rfl (wordV [(one + z0 + bits .xor .u32 (bits .xor .u32 (bits .and .u32 s0 s1) (bits .and .u32 s0 s2)) (bits .and .u32 s1 s2)) % 4294967296, s0, s1, s2, (s3 + one) % 4294967296, s4, s5, s6]) rfl hbkc rfl Tryd.infoW8 (wordV_one _) ?_))
              intro wd hbd hkd2 hsd
              rw [← HST.out] at hbd
              have hkn : Keeps (One g11) w5 wd := kc.out.step hkd2 (fun i hi => .inl hi)
              clear HST HB8 hkd2 kc
              go_wp2_with fail
              go_roundw
              case rel => first | exact ⟨j + 1, by omega, by go_num, hbd, hkn⟩ | ((repeat apply Exists.intro); exact ⟨⟨j + 1, by omega, by go_num, hbd, hkn⟩, rfl⟩)
              case measure => simp [intOf]; omega
            · obtain rfl : j = 64 := by omega
              have hS8 := rnd_len H WL KL hH 64
              have hDF := HDF.out
              generalize rnd H WL KL 64 = S at *
              have hH6 := hbH5.keep hkr.out (fun e => hm3 e)
              have hZ6 := hbZ5.keep hkr.out (fun e => hm4 e)
              have hK6 : Keeps Nil w wr := hK5.step hkr.out (fun i hi => .inr (by rw [show i = g11 from hi]; omega))
              have hz0 := addUp_zero H S hH
              have hbz : Blk wr gh (wordV (addUp H S 0)) 69 := by rw [hz0]; exact hH6
              have HK6 := Lib.hid hK6
              have HS8 := Lib.hid hS8
              have HDD := Lib.hid hDF
              have HHH := Lib.hid hH
              clear hH6 hK6 hz0 hS8 hkr hbH5 hbZ5 hbK5 hbW5 HDF hDF hH
              go_wp2_with fail
              go_loopw [18] (fun v wq => ∃ j : Nat, j ≤ 8 ∧ v = .int .i64 j ∧ Blk wq gh (wordV (addUp H S j)) 69 ∧ Hid (Keeps (One gh) wr wq)) (fun v _ => 8 - (intOf v).toNat)
              case atStart => exact ⟨0, by omega, rfl, hbz, Keeps.refl _ _⟩
              case round =>
                obtain ⟨j, hj8, rfl, hBg, hkr⟩ := hrel
                clear hbz
                have hla : (wordV (addUp H S j)).length = 8 := by rw [wordV_len, addUp_len]
                by_cases hj2 : j < 8
                · have hx := hBg.cell j (v := .int .u32 (H.getD j 0)) (by rw [wordV_at _ _ (by rw [addUp_len]; omega), addUp_getD H S j hj2])
                  have hzx := hBg.frozen j
                  have hy := (hB.keep hkr.out (fun e => hm3 (by have : g11 = gh := e; exact this.symm))).cell j (wordV_at _ _ (by have := HS8.out; omega))
                  have hs := addUp_succ H S j hj2
                  generalize H.getD j 0 = hh at *
                  generalize S.getD j 0 = ss at *
                  have HS := Lib.hid hs
                  clear hs hB hla
                  have hj0 : (0 : Int) ≤ j := by omega
                  have hj1 : (j : Int) < 8 := by omega
                  go_wp2_with fail
                  go_still_tail 9, (by kernel_rfl)
                  change wpList _ _ _ _ _ wr.drew
                  go_wp2_with fail
                  have hnew := hBg.drew.set j (.int .u32 ((hh + ss) % 4294967296))
                  rw [← wordV_set, HS.out] at hnew
                  have hkn := hkr.out.drew.setOne j (.int .u32 ((hh + ss) % 4294967296))
                  go_roundw
                  case rel => first | exact ⟨j + 1, by omega, by go_num, hnew, hkn⟩ | ((repeat apply Exists.intro); exact ⟨⟨j + 1, by omega, by go_num, hnew, hkn⟩, rfl⟩)
                  case measure => simp [intOf]; omega
                · obtain rfl : j = 8 := by omega
                  rw [← HDD.out] at hBg
                  have hl8 : (wordV (shaBlock H l)).length = 8 := by rw [wordV_len, shaBlock_len]
                  have hoR := wordV_one (shaBlock H l)
                  have hZf := hZ6.keep hkr.out (fun e => by have : gh + 1 = gh := e; omega)
                  have hKf : Keeps Nil w wr := HK6.out.step hkr.out (fun i hi => .inr (by rw [show i = gh from hi]; omega))
                  have HL8 := Lib.hid hl8
                  clear hl8 hB hZ6 HK6 hkr hla HDD HDEF
                  generalize shaBlock H l = R at *
                  go_wp2_with (first | (refine wpl_load rfl 69 _ rfl gh rfl hBg _ Tryd.undW8 rfl (by rw [HL8.out]; exact Tryd.infoW8) ?_) | (refine wpl_store rfl 69 _ _ rfl (gh + 1) rfl (wordV R) rfl hZf (by rw [HL8.out]; rfl) (by rw [HL8.out]; exact Tryd.infoW8) hoR ?_))
                  intro w9 hb9 hk9 hs9
                  go_wp2_with fail
                  refine ret_blk Tryd.results32 (gh + 1) rfl hb9 _ Tryd.undW8 rfl (by rw [HL8.out]; exact Tryd.infoW8) rfl ⟨rfl, hKf.step hk9 (fun i hi => .inr (by rw [show i = gh + 1 from hi]; omega))⟩
end Go.Proofs.YtmbdldnldcgdjaaDoor
