/-
  The law ShaSays.
-/
import Derived.Test.YtnkahfpinkgimaaShaFirst
import Derived.Test.YtnkahfpinkgimaaNumber
import Derived.Test.YtnkahfpinkgimaaRefSum
namespace Go.Proofs.Ytnkahfpinkgimaa
open Go.RowKit

theorem IsRow.leC {k : IntKind} {w : World} {a : Option Addr} {len cap : Nat} {zs : List Int} (h : IsRow k w a len cap zs) : len ≤ cap := by
  rcases h with ⟨_, rfl, rfl, _⟩ | ⟨_, _, h, _⟩
  · exact Nat.le_refl _
  · exact h
/-- Where a cut begins: at the room's very end the model leaves the address as it is. -/
def cutA (a : Option Addr) (cap at_ : Nat) : Option Addr := if cap = at_ then a else a.map (·.add at_)
section
variable {P : Program} {ops : Array Oper} {rest : List Oper} {o : Oper} {a : Act} {w : World} {Q : Exit → Act → World → Prop}
theorem run_cut (t : TypeId) (a0 : Option Addr) (len cap i j : Nat) (hu : P.underlying t = some (.slice (P.elem t))) (hs : ∀ w, (sizeOf (P.elem t)).run P w = .ok 1 w) (h1 : i ≤ j) (h2 : j ≤ cap) :
    (Instr.sliceAt t (.slice a0 len cap) (some (.int .i64 (i : Int))) (some (.int .i64 (j : Int))) none).run P w = .ok (.slice (cutA a0 cap i) (j - i) (cap - i)) w := by
  rw [run_sliceAt_slice w t _ _ _ _ hu, run_slice_lh w t a0 len cap hu .i64 .i64 i j (by omega) (by omega) (by omega), hs]
  simp [sliced, cutA]
theorem cutA_0 (a0 : Option Addr) (cap : Nat) : cutA a0 cap 0 = a0 := by
  unfold cutA
  cases a0 with
  | none => simp
  | some x => simp [Addr.add]
theorem run_head (w : World) (t : TypeId) (a0 : Option Addr) (len cap j : Nat) (hu : P.underlying t = some (.slice (P.elem t))) (hs : ∀ w, (sizeOf (P.elem t)).run P w = .ok 1 w) (h2 : j ≤ cap) :
    (Instr.sliceAt t (.slice a0 len cap) none (some (.int .i64 (j : Int))) none).run P w = .ok (.slice a0 j cap) w := by
  rw [run_sliceAt_slice w t _ _ _ _ hu, run_slice_h w t a0 len cap hu .i64 j (by omega) (by omega), hs]
  have := cutA_0 a0 cap
  unfold cutA at this
  simp only [Result.andThen, sliced, Nat.zero_mul, this, Int.toNat_natCast, Nat.sub_zero]
theorem run_rest (t : TypeId) (a0 : Option Addr) (len cap i : Nat) (hu : P.underlying t = some (.slice (P.elem t))) (hs : ∀ w, (sizeOf (P.elem t)).run P w = .ok 1 w) (h1 : i ≤ len) :
    (Instr.sliceAt t (.slice a0 len cap) (some (.int .i64 (i : Int))) none none).run P w = .ok (.slice (cutA a0 cap i) (len - i) (cap - i)) w := by
  rw [run_sliceAt_slice w t _ _ _ _ hu, run_slice_l w t a0 len cap hu .i64 i (by omega) (by omega), hs]
  simp [sliced, cutA]
/-- A slice from a place on. -/
theorem wpl_rest (hw : Region.wanted o (yielded ops a.tmps) = true) (t : TypeId) (x lo : Operand) (ho : o.op = .slice t x (some lo) none none) (a0 : Option Addr) (len cap i : Nat) (hx : a.eval x = .slice a0 len cap) (hl : a.eval lo = .int .i64 (i : Int))
    (hu : P.underlying t = some (.slice (P.elem t))) (hs : ∀ w, (sizeOf (P.elem t)).run P w = .ok 1 w) (h1 : i ≤ len)
    (h : wpList P ops Q rest (a.put o.dst (.slice (cutA a0 cap i) (len - i) (cap - i))) w) : wpList P ops Q (o :: rest) a w :=
  wpList_go hw fun _ hK => by
    unfold Oper.wp execOp
    simp only [ho, Option.map_some, Option.map_none, hx, hl, Sem.run_bind, run_rest t a0 len cap i hu hs h1, Result.andThen_ok]
    exact hK _ _ h
/-- A cut of a slice. -/
theorem wpl_cut (hw : Region.wanted o (yielded ops a.tmps) = true) (t : TypeId) (x lo hi : Operand) (ho : o.op = .slice t x (some lo) (some hi) none) (a0 : Option Addr) (len cap i j : Nat) (hx : a.eval x = .slice a0 len cap) (hl : a.eval lo = .int .i64 (i : Int)) (hh : a.eval hi = .int .i64 (j : Int))
    (hu : P.underlying t = some (.slice (P.elem t))) (hs : ∀ w, (sizeOf (P.elem t)).run P w = .ok 1 w) (h1 : i ≤ j) (h2 : j ≤ cap)
    (h : wpList P ops Q rest (a.put o.dst (.slice (cutA a0 cap i) (j - i) (cap - i))) w) : wpList P ops Q (o :: rest) a w :=
  wpList_go hw fun _ hK => by
    unfold Oper.wp execOp
    simp only [ho, Option.map_some, Option.map_none, hx, hl, hh, Sem.run_bind, run_cut t a0 len cap i j hu hs h1 h2, Result.andThen_ok]
    exact hK _ _ h
end
theorem Try.bsSl2 : (Try.prog.info? 22).map (fun i => (i.size, i.zero.isSome)) = some (1, true) := by kernel_rfl
theorem Try.infoSl2 : (Try.prog.info? 22).map (fun i => (i.zero.map (·.cells.size), i.size, i.bytes)) = some (some 1, 1, 24) := by kernel_rfl
theorem Try.elB : Try.prog.underlying 22 = some (.slice (Try.prog.elem 22)) := by kernel_rfl
theorem Try.szB (w : World) : (sizeOf (Try.prog.elem 22)).run Try.prog w = .ok 1 w := by kernel_rfl
theorem cutA_row {w : World} {a : Option Addr} {len cap : Nat} {Z : List Int} (h : Row .u8 w a len Z) (hle : len ≤ cap) (i n : Nat) (hn : i + n ≤ len) : Row .u8 w (cutA a cap i) n ((Z.drop i).take n) := by
  have hl := h.llen
  refine ⟨by simp; omega, by have := h.most; omega, fun h0 => ?_, fun x hx => h.wf x (List.mem_of_mem_drop (List.mem_of_mem_take hx))⟩
  obtain ⟨b, off, ha, hb, hc⟩ := h.cell (by omega)
  refine ⟨b, off + i, ?_, hb, fun j hj => ?_⟩
  · unfold cutA
    rw [if_neg (by omega), ha]
    simp [Addr.add]
  · rw [Nat.add_assoc, hc (i + j) (by omega)]
    simp [List.getD, hj]
theorem cutA_nil {a : Option Addr} {len cap : Nat} (hnil : a = none → cap = 0 ∧ len = 0) (hle : len ≤ cap) (i n : Nat) (hn : i + n ≤ len) : cutA a cap i = none → cap - i = 0 ∧ n = 0 := fun h => by
  unfold cutA at h
  by_cases he : cap = i
  · omega
  · rw [if_neg he] at h
    cases a with
    | none => have := hnil rfl; omega
    | some x => cases h
theorem cutA_far {w : World} {a : Option Addr} {len : Nat} {Z : List Int} (h : Row .u8 w a len Z) {k : Nat} (hk : blkOf a k) (h0 : 0 < len) : k < w.heap.size := by
  obtain ⟨b, off, ha, hb, _⟩ := h.cell h0
  rw [ha] at hk; rw [(blkOf_some _ _ _ _).1 hk]; exact hb

theorem noMid (k : Nat) : ¬ midOf none 0 k := fun h => by have := h.1; omega
def cutV (a : Option Addr) (cap : Nat) (p : Nat × Nat) : Value := .slice (cutA a cap p.1) p.2 (cap - p.1)
def cutB (Z : List Int) (p : Nat × Nat) : List Int := (Z.drop p.1).take p.2
/-- What holds while the cuts are written: A bytes are. -/
def SaysGo (w : World) (a : Option Addr) (len cap : Nat) (Z : List Int) (g A i : Nat) (v : Value) (wr : World) : Prop :=
  ∃ aH cH al capl, ∃ cs : List (Nat × Nat), v = .slice al i capl ∧ IsHash wr g aH cH (Z.take A) ∧ Keeps Nil w wr ∧ (∀ k, midOf aH cH k → w.heap.size ≤ k) ∧ Own wr 22 1 al capl i (cs.map (cutV a cap)) ∧ (∀ k, blkOf al k → w.heap.size ≤ k ∧ k ≠ g ∧ ¬ midOf aH cH k) ∧
    cs.length = i ∧ (∀ p ∈ cs, p.1 + p.2 ≤ len) ∧ (cs.map (cutB Z)).flatten = Z.take A
theorem take_cut (Z : List Int) (A m : Nat) : Z.take A ++ (Z.drop A).take m = Z.take (A + m) := by rw [List.take_add]
theorem cuts_many {w : World} {a : Option Addr} {len cap : Nat} {Z : List Int} (h : Row .u8 w a len Z) (hnil : a = none → cap = 0 ∧ len = 0) (hle : len ≤ cap) {al : Option Addr} {capl n : Nat} {cs : List (Nat × Nat)} (hn : cs.length = n) (hmost : n ≤ 1000000)
    (hO : Own w 22 1 al capl n (cs.map (cutV a cap))) (hc : ∀ p ∈ cs, p.1 + p.2 ≤ len) : ManyB w al n (cs.map (cutB Z)) :=
  ⟨by simpa using hn, hmost, fun h0 => by
    obtain ⟨gl, rfl, _, hrl⟩ := hO.some h0
    refine ⟨gl, 0, rfl, fun q hq => ?_⟩
    have hp : cs[q]? = some cs[q] := List.getElem?_eq_getElem (by omega)
    have hpl := hc cs[q] (List.getElem_mem _)
    refine ⟨cutA a cap cs[q].1, cs[q].2, cap - cs[q].1, hrl q _ (by simp [hp, cutV]), ?_, cutA_nil hnil hle _ _ hpl⟩
    have : (cs.map (cutB Z)).getD q [] = (Z.drop cs[q].1).take cs[q].2 := by simp [List.getD, hp, cutB]
    rw [this]
    exact cutA_row h hle _ _ hpl⟩

theorem Row.takeR {w : World} {a : Option Addr} {len : Nat} {Z : List Int} (h : Row .u8 w a len Z) (n : Nat) (hn : n ≤ len) : Row .u8 w a n (Z.take n) := by
  have := cutA_row h (Nat.le_refl len) 0 n (by omega)
  rw [cutA_0, List.drop_zero] at this
  exact this
/-- One cut more is told, and written. -/
theorem SaysGo.more {w wr w7 w8 : World} {a aH al a7 a8 : Option Addr} {len cap A i m g cH capl cap7 cap8 : Nat} {Z : List Int} {cs : List (Nat × Nat)} {o : Obj} (hg : w.heap.size ≤ g) (hI : IsHash wr g aH cH (Z.take A)) (hkr : Keeps Nil w wr) (hfr : ∀ k, midOf aH cH k → w.heap.size ≤ k) (hOw : Own wr 22 1 al capl i (cs.map (cutV a cap)))
    (hdis : ∀ k, blkOf al k → w.heap.size ≤ k ∧ k ≠ g ∧ ¬ midOf aH cH k) (hcs : cs.length = i) (hcb : ∀ p ∈ cs, p.1 + p.2 ≤ len) (hcf : (cs.map (cutB Z)).flatten = Z.take A) (hm : A + m ≤ len)
    (hO7 : Own w7 22 1 a7 cap7 (i + 1) (cs.map (cutV a cap) ++ [.slice (cutA a cap A) m (cap - A)])) (hk7 : Keeps (blkOf al) (wr.alloc o) w7) (hf7 : ∀ k, blkOf a7 k → blkOf al k ∨ k = wr.heap.size + 1)
    (h8 : IsHash w8 g a8 cap8 (Z.take (A + m))) (hk8 : Keeps (hashOf g aH cH) w7 w8) (hf8 : ∀ k, midOf a8 cap8 k → midOf aH cH k ∨ w7.heap.size ≤ k) : SaysGo w a len cap Z g (A + m) (i + 1) (.slice a7 (i + 1) cap7) w8 := by
  have hgl := hI.obj.lt
  have hml := hI.rest.lt
  have hol := hO7.lt
  have hk37 : Keeps Nil w w7 := (hkr.trans ((Keeps.refl Nil wr).alloc o)).step hk7 (fun k hk => .inr (hdis k hk).1)
  have hd7 : ∀ k, blkOf a7 k → w.heap.size ≤ k ∧ k ≠ g ∧ ¬ midOf aH cH k := fun k hk => by
    rcases hf7 k hk with h' | h'
    · exact hdis k h'
    · refine ⟨by have := hkr.size; omega, by omega, fun hh => by have := hml k hh; omega⟩
  refine ⟨a8, cap8, a7, cap7, cs ++ [(A, m)], rfl, h8, hk37.step hk8 (fun k hk => ?_), fun k hk => ?_, ?_, fun k hk => ?_, by simp [hcs], fun p hp => ?_, ?_⟩
  · rcases hk with rfl | hk
    · exact .inr hg
    · exact .inr (hfr k hk)
  · rcases hf8 k hk with h' | h'
    · exact hfr k h'
    · have := hk37.size; omega
  · have := hO7.keep hk8 (fun k hk hS => by
      rcases hS with hS | hS
      · exact (hd7 k hk).2.1 hS
      · exact (hd7 k hk).2.2 hS)
    simpa [cutV] using this
  · refine ⟨(hd7 k hk).1, (hd7 k hk).2.1, fun hh => ?_⟩
    rcases hf8 k hh with h' | h'
    · exact (hd7 k hk).2.2 h'
    · have := hol k hk; omega
  · rcases List.mem_append.1 hp with hp | hp
    · exact hcb p hp
    · rw [List.mem_singleton.1 hp]; exact hm
  · rw [List.map_append, List.flatten_append, hcf]
    simp only [List.map_cons, List.map_nil, List.flatten_cons, List.flatten_nil, List.append_nil, cutB]
    exact take_cut Z A m

theorem SaysGo.keep0 {w wr w' : World} {a : Option Addr} {len cap g A i : Nat} {Z : List Int} {v : Value} (h : SaysGo w a len cap Z g A i v wr) (hk : Keeps Nil wr w') : SaysGo w a len cap Z g A i v w' := by
  obtain ⟨aH, cH, al, capl, cs, rfl, hI, hkr, hfr, hOw, hdis, hcs, hcb, hcf⟩ := h
  exact ⟨aH, cH, al, capl, cs, rfl, HashAt.keep0 hI hk, hkr.trans hk, hfr, hOw.keep0 hk, hdis, hcs, hcb, hcf⟩

set_option maxRecDepth 20000 in
set_option maxHeartbeats 8000000 in
theorem shaSays_walk (a : Option Addr) (len cap : Nat) (Z : List Int) (ai : Option Addr) (ni ci : Nat) (C : List Int) (w : World) (hrow : Row .u8 w a len Z) (hrowC : Row .i64 w ai ni C) (hnil : a = none → cap = 0 ∧ len = 0) (hle : len ≤ cap) :
    Calls Try.prog 3 #[.slice a len cap, .slice ai ni ci] w (TrueS w) := by
  have hZl := hrow.llen
  by_cases h2 : 500 < len
  · have e2 : decide ((500 : Int) < len) = true := by simp; omega
    clear hZl hnil
    go_enter Try.func3, Try.ntmps3
    go_wp2_with fail
    refine (shafirst_walk w).mono ?_
    rintro e w1 ⟨rfl, hk1⟩
    go_wp2_with fail
    go_ret
    exact ⟨by first | rfl | simp, hk1⟩
  have e2 : decide ((500 : Int) < len) = false := by simp; omega
  by_cases h3 : 20 < ni
  · have e3 : decide ((20 : Int) < ni) = true := by simp; omega
    clear hZl hnil
    go_enter Try.func3, Try.ntmps3
    go_wp2_with fail
    refine (shafirst_walk w).mono ?_
    rintro e w1 ⟨rfl, hk1⟩
    go_wp2_with fail
    go_ret
    exact ⟨by first | rfl | simp, hk1⟩
  have e3 : decide ((20 : Int) < ni) = false := by simp; omega
  have hzv := Try.zeroH32
  have HROW := Lib.hid (And.intro hrow (And.intro hnil hle))
  have hzz : (byteV z32).length = 32 := by rw [byteV_len, z32_len]
  have HD := Lib.hid (And.intro (byteV_one (digest Z)) (show (byteV (digest Z)).length = 32 by rw [byteV_len, digest_len]))
  have HZZ := Lib.hid hzz
  have hq := Try.eqlDigSame Z
  have hSum1 : ∀ w' g' a' cap', IsHash w' g' a' cap' Z → Calls Try.prog 12 #[.pointer (some ⟨g', 0, none⟩)] w' fun e w'' => e = .returned (.agg (byteV (digest Z)).toArray) ∧ Keeps Nil w' w'' := fun w' g' a' cap' h => sum_walk h (by omega)
  have hAll1 : ∀ w' a' n' cap' M, ManyB w' a' n' M → M.flatten = Z → Calls Try.prog 13 #[.slice a' n' cap'] w' fun e w'' => e = .returned (.agg (byteV (digest Z)).toArray) ∧ Keeps Nil w' w'' := fun w' a' n' cap' M h hf => by
    have := shaSum_walk (cap := cap') h (by rw [hf]; omega)
    rwa [hf] at this
  have hRef1 : ∀ w', Keeps Nil w w' → Calls Try.prog 8 #[.slice a len cap] w' fun e w'' => e = .returned (.agg (byteV (digest Z)).toArray) ∧ Keeps Nil w' w'' := fun w' hk => refSum_walk (hrow.keep hk) (by omega)
  have HS := Lib.hid (And.intro hSum1 (And.intro hAll1 hRef1))
  have hHd : ∀ (w' : World) (j : Nat), j ≤ cap → (Instr.sliceAt 22 (.slice a len cap) none (some (.int .i64 (j : Int))) none).run Try.prog w' = .ok (.slice a j cap) w' := fun w' j hj => run_head w' _ a len cap j Try.elB Try.szB hj
  have HHD := Lib.hid hHd
  clear hnil hrow hzz hSum1 hAll1 hRef1 hHd
  generalize byteV z32 = ZZ at *
  generalize byteV (digest Z) = D at *
  go_enter Try.func3, Try.ntmps3
  go_wp2_with fail
  refine (shafirst_walk w).mono ?_
  rintro e w1 ⟨rfl, hk1⟩
  go_wp2_with fail
  refine (HS.out.2.2 _ hk1).mono ?_
  rintro e w2 ⟨rfl, hk2⟩
  have hK2 := hk1.trans hk2
  have hb2 := Blk.new w2 ZZ 26
  have hka := (Keeps.refl Nil w2).alloc (.cells ZZ.toArray 26)
  clear hk1 hk2
  go_wp2_with (refine wpl_store rfl 26 _ _ rfl w2.heap.size rfl D rfl hb2 (by rw [HD.out.2, HZZ.out]) (by rw [HD.out.2]; exact Try.infoH) HD.out.1 ?_)
  intro w3 hb3 hk3 _
  have hK3 : Keeps Nil w w3 := (hK2.trans hka).step hk3 (fun i hi => .inr (by rw [show i = w2.heap.size from hi]; exact hK2.size))
  have hs2 := hK2.size
  clear hb2 hka hk3 hK2
  generalize w2.heap.size = g6 at *
  have hl6 := hb3.lt
  go_wp2_with fail
  refine (new_walk w3).mono ?_
  rintro e w4 ⟨g, rfl, hI4, hk4, hg4⟩
  have hb4 := hb3.keep0 hk4
  have hK4 := hK3.trans hk4
  have hG0 : SaysGo w3 a len cap Z g 0 0 (.slice none 0 0) w4 := ⟨none, 0, none, 0, [], rfl, by simpa using hI4, hk4, fun k hk => (noMid k hk).elim, Own.nil _ _ _, fun k hk => (blkOf_none k hk).elim, rfl, fun p hp => by simp at hp, by simp⟩
  have HG := Lib.hid hG0
  clear hk4 hb4 hI4 hG0 hK4
  go_wp2_with fail
  go_loopw [8, 9, 10] (fun v v9 v10 wr => ∃ i A : Nat, i ≤ ni ∧ A ≤ len ∧ v9 = .int .i64 A ∧ v10 = .int .i64 i ∧ Hid (SaysGo w3 a len cap Z g A i v wr)) (fun _ _ v10 _ => ni - (intOf v10).toNat)
  case atStart => exact ⟨0, 0, by omega, by omega, rfl, rfl, HG.out⟩
  case round =>
    obtain ⟨i, A, hi, hA, rfl, rfl, hGi⟩ := hrel
    clear HG
    obtain ⟨aH, cH, al, capl, cs, rfl, hI, hkr, hfr, hOw, hdis, hcs, hcb, hcf⟩ := hGi.out
    clear hGi
    by_cases hin : i < ni
    · obtain ⟨bC, oC, rfl, _, hcC⟩ := hrowC.cell (by omega)
      have hcc := (hK3.trans hkr).cell (hcC i hin) (fun h => h)
      have hcw := i64_wf (hrowC.wf _ (hrowC.at_ hin))
      generalize C.getD i 0 = cc at *
      have hw1 : IntKind.i64.wrap ((len : Int) - A) = len - A := by rw [IntKind.wrap_i64]; omega
      have hw2 : IntKind.i64.wrap ((len : Int) - A + 1) = len - A + 1 := by rw [IntKind.wrap_i64]; omega
      have hi0 : (0 : Int) ≤ i := by omega
      have hi1 : (i : Int) < ni := by omega
      have HCX := Lib.hid (And.intro hcC hcw)
      have HHI := Lib.hid (And.intro hI (And.intro hkr (And.intro hOw (And.intro hdis (And.intro hcs (And.intro hcb (And.intro hcf hfr)))))))
      clear hcC hcw hI hkr hOw hdis hcs hcb hcf hfr
      go_wp2_with fail
      refine (number_walk cc ((len : Int) - A + 1) wr HCX.out.2.1 HCX.out.2.2 (by omega) (by omega)).mono ?_
      rintro e w5 ⟨rfl, rfl⟩
      obtain ⟨m, hm, hmod⟩ : ∃ m : Nat, A + m ≤ len ∧ cc % ((len : Int) - A + 1) = m := ⟨(cc % ((len : Int) - A + 1)).toNat, by have := Int.emod_lt_of_pos cc (show (0 : Int) < (len : Int) - A + 1 by omega); have := Int.emod_nonneg cc (show (len : Int) - A + 1 ≠ 0 by omega); omega, by have := Int.emod_nonneg cc (show (len : Int) - A + 1 ≠ 0 by omega); omega⟩
      rw [hmod]
      clear hmod hw1 hw2 hcc
      have hw3 : IntKind.i64.wrap ((A : Int) + m) = A + m := by rw [IntKind.wrap_i64]; omega
      have hm0 : (0 : Int) ≤ A := by omega
      have hm1 : (A : Int) ≤ A + m := by omega
      have hm2 : (A : Int) + m ≤ cap := by omega
      have hm3 : (0 : Int) ≤ (A : Int) + m := by omega
      have hm4 : A + m ≤ cap := by omega
      clear hm0 hm1 hm2 hm3
      have hAM : ((A + m : Nat) : Int) = (A : Int) + m := by omega
      have HAM := Lib.hid hAM
      clear hAM
      go_wp2_with (first | (refine wpl_cut rfl 22 _ _ _ rfl a len cap A (A + m) rfl rfl (by rw [HAM.out]; rfl) Try.elB Try.szB (by omega) hm4 ?_) | (refine wpList_bs rfl 30 22 1 _ rfl [.slice (cutA a cap A) m (cap - A)] Try.underlying30 Try.bsSl2 rfl (by decide) (by decide) (by first | rfl | (simp [Act.eval]; done) | simp [Act.eval, Act.put]) (by simp [Value.cells]) ?_) | (at_builtin; go_must (refine wpl_append rfl _ _ 30 rfl 22 1 24 Try.underlying30 Try.infoSl2 (by omega) al capl i (cs.map (cutV a cap)) rfl (HHI.out.2.2.1.keep0 ((Keeps.refl _ _).alloc _)) _ 1 1 [.slice (cutA a cap A) m (cap - A)] rfl (Src.one (Blk.new _ _ _) rfl) (by unfold maxLen; omega) (by omega) ?_)))
      intro a7 cap7 w7 hO7 hk7 hf7
      try intro _
      have hf7' : ∀ k, blkOf a7 k → blkOf al k ∨ k = wr.heap.size + 1 := fun k hk => by have := hf7 k hk; simpa using this
      obtain ⟨hI, hkr, hOw, hdis, hcs, hcb, hcf, hfr⟩ := HHI.out
      have hI7 : IsHash w7 g aH cH (Z.take A) := HashAt.keep (HashAt.keep0 hI ((Keeps.refl Nil wr).alloc _)) hk7 (fun k hk hb => by
        rcases hk with hk | hk
        · exact (hdis k hb).2.1 hk
        · exact (hdis k hb).2.2 hk)
      have hk37 : Keeps Nil w3 w7 := (hkr.trans ((Keeps.refl Nil wr).alloc _)).step hk7 (fun k hk => .inr (hdis k hk).1)
      have hw := write_walk hI7 (cutA_row (HROW.out.1.keep (hK3.trans hk37)) HROW.out.2.2 A m hm) (capb := cap - A) (cutA_nil HROW.out.2.1 HROW.out.2.2 A m hm) (fun k hk h0 => by
        obtain ⟨b, off, ha, hb, _⟩ := (cutA_row HROW.out.1 HROW.out.2.2 A m hm).cell h0
        rw [ha] at hk; rw [(blkOf_some _ _ _ _).1 hk]; have := hK3.size; omega) (by rw [List.length_take]; omega)
      rw [take_cut] at hw
      have HW := Lib.hid hw
      have HMORE := Lib.hid (fun w8 a8 cap8 h8 hk8 hf8 => SaysGo.more (w8 := w8) (a8 := a8) (cap8 := cap8) hg4 hI hkr hfr hOw hdis hcs hcb hcf hm hO7 hk7 hf7' h8 hk8 hf8)
      clear hw hI7 hI hkr hOw hdis hcs hcb hcf hfr hO7 hk7 hf7 hf7' HHI hk37
      go_wp2_with (first | (refine wpl_cut rfl 22 _ _ _ rfl a len cap A (A + m) rfl rfl (by rw [HAM.out]; rfl) Try.elB Try.szB (by omega) hm4 ?_))
      refine HW.out.mono ?_
      rintro e w8 ⟨rfl, a8, cap8, h8, hk8, hf8⟩
      have hG8 := HMORE.out w8 a8 cap8 h8 hk8 hf8
      have hK8 : Keeps Nil w w8 := by
        obtain ⟨_, _, _, _, _, _, _, h, _⟩ := hG8
        exact hK3.trans h
      have HG8 := Lib.hid hG8
      clear HW HMORE hk8 hf8 hG8
      go_wp2_with fail
      rw [← HAM.out]
      have hBlen : A + m ≤ len := hm
      have HB := Lib.hid (And.intro hBlen hin)
      generalize A + m = B at *
      have hH2 : ∀ w', (Instr.sliceAt 22 (.slice a len cap) none (some (.int .i64 (B : Int))) none).run Try.prog w' = .ok (.slice a B cap) w' := fun w' => HHD.out w' B hm4
      have hsumB : Calls Try.prog 12 #[.pointer (some ⟨g, 0, none⟩)] w8.drew fun e w' => e = .returned (.agg (byteV (digest (Z.take B))).toArray) ∧ Keeps Nil w8.drew w' := sum_walk (HashAt.keep0 h8 ((Keeps.refl Nil w8).drew)) (by rw [List.length_take]; omega)
      have hrefB : ∀ w', Keeps Nil w w' → Calls Try.prog 8 #[.slice a B cap] w' fun e w'' => e = .returned (.agg (byteV (digest (Z.take B))).toArray) ∧ Keeps Nil w' w'' := fun w' hk => refSum_walk ((Row.takeR HROW.out.1 B hBlen).keep hk) (by omega)
      have hnq : ∀ w', (binOp .neq 26 (.agg (byteV (digest (Z.take B))).toArray) (.agg (byteV (digest (Z.take B))).toArray)).run Try.prog w' = .ok (.bool false) w' := fun w' => by
        rw [Try.neqDig (digest_len _) (digest_len _) (digest_bytes _) (digest_bytes _)]; simp
      have HSR := Lib.hid (And.intro hsumB hrefB)
      have HN3 := Lib.hid HG8.out
      clear hsumB hrefB hBlen hm4 HAM h8 HG8 hm hin
      generalize byteV (digest (Z.take B)) = E at *
      refine wp_region_held_drew (S := fun _ => True) (by kernel_rfl) trivial (fun hHeld => ?_)
      have hkd : Keeps Nil w8 w8.drew := (Keeps.refl Nil w8).drew
      refine takeL (i := 0) (v := _) rfl (by kernel_rfl) (by kernel_rfl) (by kernel_rfl) (fun _ _ _ h => h) (Or.inl ⟨by rfl, by intro w hSw; (try dsimp only at hSw); go_simp; try with_reducible rfl⟩) (by assumption) ?_
      try simp only [Act.put, List.setIfInBounds_toArray, List.set_cons_zero, List.set_cons_succ]
      refine takeL (i := 2) (v := _) rfl (by kernel_rfl) (by kernel_rfl) (by kernel_rfl) (fun _ _ _ h => h) (Or.inl ⟨by rfl, by intro w hSw; (try dsimp only at hSw); go_simp; try with_reducible rfl⟩) (by assumption) ?_
      try simp only [Act.put, List.setIfInBounds_toArray, List.set_cons_zero, List.set_cons_succ]
      refine takeL (i := 3) (v := _) rfl (by kernel_rfl) (by kernel_rfl) (by kernel_rfl) (fun _ _ _ h => h) (Or.inl ⟨by rfl, by intro w hSw; (try dsimp only at hSw); go_simp; try with_reducible rfl⟩) (by assumption) ?_
      try simp only [Act.put, List.setIfInBounds_toArray, List.set_cons_zero, List.set_cons_succ]
      refine takeL (i := 4) (v := _) rfl (by kernel_rfl) (by kernel_rfl) (by kernel_rfl) (fun _ _ _ h => h) (Or.inl ⟨by rfl, by intro w hSw; (try dsimp only at hSw); go_simp; try with_reducible rfl⟩) (by assumption) ?_
      try simp only [Act.put, List.setIfInBounds_toArray, List.set_cons_zero, List.set_cons_succ]
      refine onlyL (i := 1) rfl (by kernel_rfl) (fun K hK => ?_)
      go_simp
      refine HSR.out.1.mono ?_
      rintro e w9 ⟨rfl, hk9⟩
      have hk89 := hkd.trans hk9
      refine (fun hHeld => hK _ _ hHeld ?_) (trivial)
      clear hK
      try simp only [Act.put, List.setIfInBounds_toArray, List.set_cons_zero, List.set_cons_succ]
      refine onlyL (i := 5) rfl (by kernel_rfl) (fun K hK => ?_)
      go_simp
      refine (HSR.out.2 w9 (hK8.trans hk89)).mono ?_
      rintro e w10 ⟨rfl, hk10⟩
      have hk810 := hk89.trans hk10
      refine (fun hHeld => hK _ _ hHeld ?_) (trivial)
      clear hK
      try simp only [Act.put, List.setIfInBounds_toArray, List.set_cons_zero, List.set_cons_succ]
      refine takeL (i := 6) (v := _) rfl (by kernel_rfl) (by kernel_rfl) (by kernel_rfl) (fun _ _ _ h => h) (Or.inl ⟨by rfl, by intro w hSw; (try dsimp only at hSw); go_simp; try with_reducible rfl⟩) (by assumption) ?_
      try simp only [Act.put, List.setIfInBounds_toArray, List.set_cons_zero, List.set_cons_succ]
      refine wpAnyH_done (by kernel_rfl) ?_ _
      go_wp2_with fail
      have hG10 := HN3.out.keep0 hk810
      exact ⟨⟨i + 1, B, by omega, HB.out.1, rfl, by go_num, hG10⟩, by have := HB.out.2; simp [intOf]; omega⟩
    · obtain rfl : i = ni := by omega
      have hAm : A + (len - A) ≤ len := by omega
      have hAe : A + (len - A) = len := by omega
      clear hin
      go_wp2_with (first | (refine wpl_rest rfl 22 _ _ rfl a len cap A rfl rfl Try.elB Try.szB hA ?_) | (refine wpList_bs rfl 30 22 1 _ rfl [.slice (cutA a cap A) (len - A) (cap - A)] Try.underlying30 Try.bsSl2 rfl (by decide) (by decide) (by first | rfl | (simp [Act.eval]; done) | simp [Act.eval, Act.put]) (by simp [Value.cells]) ?_) | (at_builtin; go_must (refine wpl_append rfl _ _ 30 rfl 22 1 24 Try.underlying30 Try.infoSl2 (by omega) al capl i (cs.map (cutV a cap)) rfl (hOw.keep0 ((Keeps.refl _ _).alloc _)) _ 1 1 [.slice (cutA a cap A) (len - A) (cap - A)] rfl (Src.one (Blk.new _ _ _) rfl) (by unfold maxLen; omega) (by omega) ?_)))
      intro a7 cap7 w7 hO7 hk7 hf7
      try intro _
      have hf7' : ∀ k, blkOf a7 k → blkOf al k ∨ k = wr.heap.size + 1 := fun k hk => by have := hf7 k hk; simpa using this
      have hI7 : IsHash w7 g aH cH (Z.take A) := HashAt.keep (HashAt.keep0 hI ((Keeps.refl Nil wr).alloc _)) hk7 (fun k hk hb => by
        rcases hk with hk | hk
        · exact (hdis k hb).2.1 hk
        · exact (hdis k hb).2.2 hk)
      have hk37 : Keeps Nil w3 w7 := (hkr.trans ((Keeps.refl Nil wr).alloc _)).step hk7 (fun k hk => .inr (hdis k hk).1)
      have hw := write_walk hI7 (cutA_row (HROW.out.1.keep (hK3.trans hk37)) HROW.out.2.2 A (len - A) hAm) (capb := cap - A) (cutA_nil HROW.out.2.1 HROW.out.2.2 A (len - A) hAm) (fun k hk h0 => by
        obtain ⟨b, off, ha, hb, _⟩ := (cutA_row HROW.out.1 HROW.out.2.2 A (len - A) hAm).cell h0
        rw [ha] at hk; rw [(blkOf_some _ _ _ _).1 hk]; have := hK3.size; omega) (by rw [List.length_take]; omega)
      rw [take_cut] at hw
      have HW := Lib.hid hw
      have HMORE := Lib.hid (fun w8 a8 cap8 h8 hk8 hf8 => SaysGo.more (w8 := w8) (a8 := a8) (cap8 := cap8) hg4 hI hkr hfr hOw hdis hcs hcb hcf hAm hO7 hk7 hf7' h8 hk8 hf8)
      have HAE := Lib.hid hAe
      clear hw hI7 hI hkr hOw hdis hcs hcb hcf hfr hO7 hk7 hf7 hf7' hk37 hAm hAe
      go_wp2_with (first | (refine wpl_rest rfl 22 _ _ rfl a len cap A rfl rfl Try.elB Try.szB hA ?_))
      refine HW.out.mono ?_
      rintro e w8 ⟨rfl, a8, cap8, h8, hk8, hf8⟩
      have hG8 := HMORE.out w8 a8 cap8 h8 hk8 hf8
      rw [HAE.out] at hG8
      obtain ⟨a9, cap9, al9, capl9, cs9, hv9, hI9, hkr9, _, hOw9, _, hcs9, hcb9, hcf9⟩ := hG8
      cases hv9
      have hZt : Z.take len = Z := List.take_of_length_le (by omega)
      rw [hZt] at hI9 hcf9
      have hK8 := hK3.trans hkr9
      have hb8 := hb3.keep0 hkr9
      have HI9 := Lib.hid (fun (w' : World) (hk : Keeps Nil w8 w') => (HashAt.keep0 hI9 hk : IsHash w' g a9 cap9 Z))
      have HML := Lib.hid (fun (w' : World) (hk : Keeps Nil w8 w') => cuts_many (HROW.out.1.keep (hK8.trans hk)) HROW.out.2.1 HROW.out.2.2 hcs9 (by omega) (hOw9.keep0 hk) hcb9)
      have HCF := Lib.hid hcf9
      have HRW := Lib.hid (fun (w' : World) (hk : Keeps Nil w8 w') => HROW.out.1.keep (hK8.trans hk))
      have HNL := Lib.hid HROW.out.2.1
      have hUH := Try.undH
      have hIH : (Try.prog.info? 26).map (·.size) = some D.length := by rw [HD.out.2]; exact Try.infoH
      clear HW HMORE hk8 hf8 hI9 hOw9 hcs9 hcb9 hcf9 hZt h8 hkr9
      go_wp2_with fail
      refine wp_region_held_drew (S := fun w' => w'.rangeAt g6 0 D) (by kernel_rfl) hb8.range0 (fun hHeld => ?_)
      have hkd : Keeps Nil w8 w8.drew := (Keeps.refl Nil w8).drew
      generalize w8.drew = wd at *
      refine takeL (i := 0) (v := _) rfl (by kernel_rfl) (by kernel_rfl) (by kernel_rfl) (fun _ _ _ h => h) (Or.inl ⟨by rfl, by intro w hSw; (try dsimp only at hSw); go_simp; try with_reducible rfl⟩) (by assumption) ?_
      try simp only [Act.put, List.setIfInBounds_toArray, List.set_cons_zero, List.set_cons_succ]
      refine takeL (i := 1) (v := _) rfl (by kernel_rfl) (by kernel_rfl) (by kernel_rfl) (fun _ _ _ h => h) (Or.inl ⟨by rfl, by intro w hSw; (try dsimp only at hSw); go_simp; try with_reducible rfl⟩) (by assumption) ?_
      try simp only [Act.put, List.setIfInBounds_toArray, List.set_cons_zero, List.set_cons_succ]
      refine takeL (i := 2) (v := _) rfl (by kernel_rfl) (by kernel_rfl) (by kernel_rfl) (fun _ _ _ h => h) (Or.inl ⟨by rfl, by intro w hSw; (try dsimp only at hSw); go_simp; try with_reducible rfl⟩) (by assumption) ?_
      try simp only [Act.put, List.setIfInBounds_toArray, List.set_cons_zero, List.set_cons_succ]
      refine takeL (i := 5) (v := _) rfl (by kernel_rfl) (by kernel_rfl) (by kernel_rfl) (fun _ _ _ h => h) (yieldsIf_load_mid (by rfl) 26 _ rfl g6 0 rfl (D) _ (fun w hSw => hSw) hUH rfl hIH) (by assumption) ?_
      try simp only [Act.put, List.setIfInBounds_toArray, List.set_cons_zero, List.set_cons_succ]
      refine onlyL (i := 3) rfl (by kernel_rfl) (fun K hK => ?_)
      refine step_bsOneW rfl 30 22 _ rfl (.slice a len cap) rfl Try.underlying30 (by kernel_rfl) (by simp [Act.eval]) ?_
      have hkF : Keeps Nil w8 (wd.alloc (.cells [Value.slice a len cap].toArray 22)) := hkd.alloc _
      have hMF : ManyB (wd.alloc (.cells [Value.slice a len cap].toArray 22)) (some ⟨wd.heap.size, 0, none⟩) 1 [Z] := ManyB.one (Blk.new wd [Value.slice a len cap] 22) (HRW.out _ hkF) HNL.out
      refine (fun hHeld => hK _ _ hHeld ?_) ((hb8.keep0 hkF).range0)
      clear hK
      try simp only [Act.put, List.setIfInBounds_toArray, List.set_cons_zero, List.set_cons_succ]
      refine onlyL (i := 4) rfl (by kernel_rfl) (fun K hK => ?_)
      go_simp
      refine (HS.out.2.1 _ _ _ _ _ hMF (by simp)).mono ?_
      rintro e wf ⟨rfl, hkwf⟩
      have hkG : Keeps Nil w8 wf := Keeps.trans hkF hkwf
      refine (fun hHeld => hK _ _ hHeld ?_) ((hb8.keep0 hkG).range0)
      clear hK
      try simp only [Act.put, List.setIfInBounds_toArray, List.set_cons_zero, List.set_cons_succ]
      refine takeL (i := 6) (v := _) rfl (by kernel_rfl) (by kernel_rfl) (by kernel_rfl) (fun _ _ _ h => h) (Or.inl ⟨by rfl, by intro w hSw; (try dsimp only at hSw); go_simp; try with_reducible rfl⟩) (by assumption) ?_
      try simp only [Act.put, List.setIfInBounds_toArray, List.set_cons_zero, List.set_cons_succ]
      refine takeL (i := 7) (v := _) rfl (by kernel_rfl) (by kernel_rfl) (by kernel_rfl) (fun _ _ _ h => h) (Or.inl ⟨by rfl, by intro w hSw; (try dsimp only at hSw); go_simp; try with_reducible rfl⟩) (by assumption) ?_
      try simp only [Act.put, List.setIfInBounds_toArray, List.set_cons_zero, List.set_cons_succ]
      refine takeL (i := 8) (v := _) rfl (by kernel_rfl) (by kernel_rfl) (by kernel_rfl) (fun _ _ _ h => h) (Or.inl ⟨by rfl, by intro w hSw; (try dsimp only at hSw); go_simp; try with_reducible rfl⟩) (by assumption) ?_
      try simp only [Act.put, List.setIfInBounds_toArray, List.set_cons_zero, List.set_cons_succ]
      refine takeL (i := 9) (v := _) rfl (by kernel_rfl) (by kernel_rfl) (by kernel_rfl) (fun _ _ _ h => h) (Or.inl ⟨by rfl, by intro w hSw; (try dsimp only at hSw); go_simp; try with_reducible rfl⟩) (by assumption) ?_
      try simp only [Act.put, List.setIfInBounds_toArray, List.set_cons_zero, List.set_cons_succ]
      refine takeL (i := 11) (v := _) rfl (by kernel_rfl) (by kernel_rfl) (by kernel_rfl) (fun _ _ _ h => h) (yieldsIf_load_mid (by rfl) 26 _ rfl g6 0 rfl (D) _ (fun w hSw => hSw) hUH rfl hIH) (by assumption) ?_
      try simp only [Act.put, List.setIfInBounds_toArray, List.set_cons_zero, List.set_cons_succ]
      refine onlyL (i := 10) rfl (by kernel_rfl) (fun K hK => ?_)
      go_simp
      refine (HS.out.2.1 wf _ _ _ _ (HML.out wf hkG) HCF.out).mono ?_
      rintro e wg ⟨rfl, hkwg⟩
      have hkH : Keeps Nil w8 wg := Keeps.trans hkG hkwg
      refine (fun hHeld => hK _ _ hHeld ?_) ((hb8.keep0 hkH).range0)
      clear hK
      try simp only [Act.put, List.setIfInBounds_toArray, List.set_cons_zero, List.set_cons_succ]
      refine takeL (i := 12) (v := _) rfl (by kernel_rfl) (by kernel_rfl) (by kernel_rfl) (fun _ _ _ h => h) (Or.inl ⟨by rfl, by intro w hSw; (try dsimp only at hSw); go_simp; try with_reducible rfl⟩) (by assumption) ?_
      try simp only [Act.put, List.setIfInBounds_toArray, List.set_cons_zero, List.set_cons_succ]
      refine takeL (i := 13) (v := _) rfl (by kernel_rfl) (by kernel_rfl) (by kernel_rfl) (fun _ _ _ h => h) (Or.inl ⟨by rfl, by intro w hSw; (try dsimp only at hSw); go_simp; try with_reducible rfl⟩) (by assumption) ?_
      try simp only [Act.put, List.setIfInBounds_toArray, List.set_cons_zero, List.set_cons_succ]
      refine takeL (i := 14) (v := _) rfl (by kernel_rfl) (by kernel_rfl) (by kernel_rfl) (fun _ _ _ h => h) (Or.inl ⟨by rfl, by intro w hSw; (try dsimp only at hSw); go_simp; try with_reducible rfl⟩) (by assumption) ?_
      try simp only [Act.put, List.setIfInBounds_toArray, List.set_cons_zero, List.set_cons_succ]
      refine takeL (i := 15) (v := _) rfl (by kernel_rfl) (by kernel_rfl) (by kernel_rfl) (fun _ _ _ h => h) (Or.inl ⟨by rfl, by intro w hSw; (try dsimp only at hSw); go_simp; try with_reducible rfl⟩) (by assumption) ?_
      try simp only [Act.put, List.setIfInBounds_toArray, List.set_cons_zero, List.set_cons_succ]
      refine takeL (i := 17) (v := _) rfl (by kernel_rfl) (by kernel_rfl) (by kernel_rfl) (fun _ _ _ h => h) (yieldsIf_load_mid (by rfl) 26 _ rfl g6 0 rfl (D) _ (fun w hSw => hSw) hUH rfl hIH) (by assumption) ?_
      try simp only [Act.put, List.setIfInBounds_toArray, List.set_cons_zero, List.set_cons_succ]
      refine onlyL (i := 16) rfl (by kernel_rfl) (fun K hK => ?_)
      go_simp
      refine (HS.out.1 wg _ _ _ (HI9.out wg hkH)).mono ?_
      rintro e wh ⟨rfl, hkwh⟩
      have hkI : Keeps Nil w8 wh := Keeps.trans hkH hkwh
      refine (fun hHeld => hK _ _ hHeld ?_) ((hb8.keep0 hkI).range0)
      clear hK
      try simp only [Act.put, List.setIfInBounds_toArray, List.set_cons_zero, List.set_cons_succ]
      refine takeL (i := 18) (v := _) rfl (by kernel_rfl) (by kernel_rfl) (by kernel_rfl) (fun _ _ _ h => h) (Or.inl ⟨by rfl, by intro w hSw; (try dsimp only at hSw); go_simp; try with_reducible rfl⟩) (by assumption) ?_
      try simp only [Act.put, List.setIfInBounds_toArray, List.set_cons_zero, List.set_cons_succ]
      refine takeL (i := 19) (v := _) rfl (by kernel_rfl) (by kernel_rfl) (by kernel_rfl) (fun _ _ _ h => h) (Or.inl ⟨by rfl, by intro w hSw; (try dsimp only at hSw); go_simp; try with_reducible rfl⟩) (by assumption) ?_
      try simp only [Act.put, List.setIfInBounds_toArray, List.set_cons_zero, List.set_cons_succ]
      refine takeL (i := 20) (v := _) rfl (by kernel_rfl) (by kernel_rfl) (by kernel_rfl) (fun _ _ _ h => h) (Or.inl ⟨by rfl, by intro w hSw; (try dsimp only at hSw); go_simp; try with_reducible rfl⟩) (by assumption) ?_
      try simp only [Act.put, List.setIfInBounds_toArray, List.set_cons_zero, List.set_cons_succ]
      refine takeL (i := 21) (v := _) rfl (by kernel_rfl) (by kernel_rfl) (by kernel_rfl) (fun _ _ _ h => h) (Or.inl ⟨by rfl, by intro w hSw; (try dsimp only at hSw); go_simp; try with_reducible rfl⟩) (by assumption) ?_
      try simp only [Act.put, List.setIfInBounds_toArray, List.set_cons_zero, List.set_cons_succ]
      refine takeL (i := 23) (v := _) rfl (by kernel_rfl) (by kernel_rfl) (by kernel_rfl) (fun _ _ _ h => h) (yieldsIf_load_mid (by rfl) 26 _ rfl g6 0 rfl (D) _ (fun w hSw => hSw) hUH rfl hIH) (by assumption) ?_
      try simp only [Act.put, List.setIfInBounds_toArray, List.set_cons_zero, List.set_cons_succ]
      refine onlyL (i := 22) rfl (by kernel_rfl) (fun K hK => ?_)
      go_simp
      refine (HS.out.1 wh _ _ _ (HI9.out wh hkI)).mono ?_
      rintro e wi ⟨rfl, hkwi⟩
      have hkJ : Keeps Nil w8 wi := Keeps.trans hkI hkwi
      refine (fun hHeld => hK _ _ hHeld ?_) ((hb8.keep0 hkJ).range0)
      clear hK
      try simp only [Act.put, List.setIfInBounds_toArray, List.set_cons_zero, List.set_cons_succ]
      refine takeL (i := 24) (v := _) rfl (by kernel_rfl) (by kernel_rfl) (by kernel_rfl) (fun _ _ _ h => h) (Or.inl ⟨by rfl, by intro w hSw; (try dsimp only at hSw); go_simp; try with_reducible rfl⟩) (by assumption) ?_
      try simp only [Act.put, List.setIfInBounds_toArray, List.set_cons_zero, List.set_cons_succ]
      refine takeL (i := 25) (v := _) rfl (by kernel_rfl) (by kernel_rfl) (by kernel_rfl) (fun _ _ _ h => h) (Or.inl ⟨by rfl, by intro w hSw; (try dsimp only at hSw); go_simp; try with_reducible rfl⟩) (by assumption) ?_
      try simp only [Act.put, List.setIfInBounds_toArray, List.set_cons_zero, List.set_cons_succ]
      refine takeL (i := 26) (v := _) rfl (by kernel_rfl) (by kernel_rfl) (by kernel_rfl) (fun _ _ _ h => h) (Or.inl ⟨by rfl, by intro w hSw; (try dsimp only at hSw); go_simp; try with_reducible rfl⟩) (by assumption) ?_
      try simp only [Act.put, List.setIfInBounds_toArray, List.set_cons_zero, List.set_cons_succ]
      refine wpAnyH_done (by kernel_rfl) ?_ _
      go_wp2_with fail
      go_ret
      exact ⟨by first | rfl | simp, hK8.trans hkJ⟩
end Go.Proofs.Ytnkahfpinkgimaa
