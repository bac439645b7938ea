/-
  The law HeadBack.
-/
import Derived.Test.YtdkfhfflhglmaaaDoorHeadCut2
import Derived.Test.YtdkfhfflhglmaaaDoorHeadEql
namespace Go.Proofs.YtdkfhfflhglmaaaDoor
open Go.RowKit

theorem headB_take {k : List Int} {pn n : Int} (h : IsHead k pn n) (B : List Int) : (headB k pn n ++ B).take 32 = k := by
  unfold headB
  rw [List.append_assoc, List.append_assoc, List.take_append_of_le_length (by rw [h.len]; omega), List.take_of_length_le (by rw [h.len]; omega)]
theorem headB_drop {k : List Int} {pn n : Int} (h : IsHead k pn n) (B : List Int) : (headB k pn n ++ B).drop 40 = B := by
  rw [List.drop_append_of_le_length (by rw [headB_len h]; omega), List.drop_of_length_le (by rw [headB_len h]; omega), List.nil_append]
theorem headB_pn {k : List Int} {pn n : Int} (h : IsHead k pn n) (B : List Int) : num4 (headB k pn n ++ B) 32 = pn := by
  have := num4_at k (le4 n ++ B) pn h.pn.1 h.pn.2
  rw [h.len] at this
  simpa [headB, List.append_assoc] using this
theorem headB_n {k : List Int} {pn n : Int} (h : IsHead k pn n) (B : List Int) : num4 (headB k pn n ++ B) 36 = n := by
  have := num4_at (k ++ le4 pn) B n h.n.1 h.n.2
  rw [show (k ++ le4 pn).length = 36 by simp [le4, h.len]] at this
  simpa [headB, List.append_assoc] using this
theorem readH_headB {k : List Int} {pn n : Int} (h : IsHead k pn n) : readH (headB k pn n) = headV k pn n := by
  have h1 := headB_take h []
  have h2 := headB_pn h []
  have h3 := headB_n h []
  rw [List.append_nil] at h1 h2 h3
  unfold readH
  rw [if_pos (headB_len h), h1, h2, h3]

set_option maxRecDepth 100000 in
set_option maxHeartbeats 8000000 in
theorem headBack_walk (k : List Int) (pn n : Int) (a : Option Addr) (len cap : Nat) (z : List Int) (w : World) (w0 : IsHead k pn n) (w1 : IsRow .u8 w a len cap z) {p : Nat → Addr} (hE : Errs w p) :
    Calls Tryd.prog 13 #[.agg (headV k pn n).toArray, .slice a len cap] w (TrueC w) := by
  have hrow := Row.of_isRow w1
  have hnil : a = none → cap = 0 ∧ len = 0 := fun h => w1.nil h
  clear w1
  generalize hZ : z.take len = Z at *
  clear hZ
  have hzl := hrow.llen
  have hzv := Tryd.zeroHead
  have hbA := Blk.new w (headV k pn n) 76
  have hkA : Keeps Nil w (w.alloc (.cells (headV k pn n).toArray 76)) := (Keeps.refl Nil w).alloc _
  have hV34 := headV_len k pn n w0.len
  have hV1 := headV_one k pn n
  have hz34 : zeroH.length = 34 := headV_len zk 0 0 zk_len
  have hz1 : ∀ v ∈ zeroH, v.oneCell' = true := headV_one zk 0 0
  have hBl := headB_len w0
  have hBb := headB_bytes w0
  have hwfB : ∀ x ∈ headB k pn n, (Lit.int .u8 x).wf = true := fun x hx => by have := hBb x hx; simp [Lit.wf, IntKind.min, IntKind.max, IntKind.signed, IntKind.bits]; omega
  have hwfZ : ∀ x ∈ headB k pn n ++ Z, (Lit.int .u8 x).wf = true := fun x hx => (List.mem_append.1 hx).elim (hwfB x) (hrow.wf x)
  have hwf1 : ∀ x ∈ headB k pn n ++ [1], (Lit.int .u8 x).wf = true := fun x hx => (List.mem_append.1 hx).elim (hwfB x) (fun h => by rw [List.mem_singleton.1 h]; rfl)
  have HBW := Lib.hid (fun w => headBytes_walk w0 w)
  have HRH := Lib.hid (readH_headB w0)
  have HWF := Lib.hid (And.intro hwfB (And.intro hwfZ hwf1))
  have HBK := Lib.hid (And.intro (headB_take w0 Z) (And.intro (headB_drop w0 Z) (And.intro (headB_pn w0 Z) (headB_n w0 Z))))
  have hq : ∀ w, (binOp .eql 76 (.agg (headV k pn n).toArray) (.agg (headV k pn n).toArray)).run Tryd.prog w = .ok (.bool true) w := fun w => by
    rw [Tryd.eqlHead w0 w0]; simp
  clear hwfB hwfZ hwf1 hBb
  have HVE := Lib.hid (show headV k pn n = headV k pn n from rfl)
  generalize hVV : headV k pn n = V at *
  generalize hBB : headB k pn n = B at *
  have HVV := Lib.hid hVV
  clear hVV HVE hBB
  have hBZ : (B ++ Z).length = 40 + len := by rw [List.length_append, hBl, hzl]
  have HBZ := Lib.hid hBZ
  clear hBZ
  by_cases hbig : 60 < len
  · go_enter Tryd.func13, Tryd.ntmps13
    go_wp2_with fail
    refine (headfirst_walk (hE.keep hkA)).mono ?_
    rintro e wB ⟨rfl, hkB⟩
    go_wp2_with fail
    go_ret
    exact ⟨by first | rfl | simp, hkA.trans hkB⟩
  have hsm : len ≤ 60 := by omega
  have hsm2 : decide ((60 : Int) < len) = false := by simp; omega
  go_enter Tryd.func13, Tryd.ntmps13
  go_wp2_with fail
  generalize (w.alloc (.cells V.toArray 76)) = wA at *
  refine (headfirst_walk (hE.keep hkA)).mono ?_
  rintro e wB ⟨rfl, hkB⟩
  have hbB := hbA.keep0 hkB
  have hkAB := hkA.trans hkB
  clear hkA hkB hbA
  -- the header's bytes once more: block hbB holds it; world wB, what it keeps hkAB
  go_wp2_with (refine wpl_load rfl 76 _ rfl w.heap.size rfl hbB _ Tryd.underlying76 rfl (by rw [hV34]; exact Tryd.infoHead) ?_)
  go_wp2_with fail
  refine (HBW.out wB).mono ?_
  rintro e w3 ⟨a3, c3, rfl, ho3, hk3, hf3⟩
  rw [hBl] at ho3 ⊢
  have hb3 := hbB.keep0 hk3
  have hK3 := hkAB.trans hk3
  go_wp2_with fail
  refine (headRead_walk (hE.keep hK3) (ho3.row HWF.out.1) (fun h => by
    obtain ⟨g, hg, _⟩ := ho3.some (by omega)
    rw [hg] at h; cases h) (by omega)).mono ?_
  rintro e w4 ⟨v4, rfl, hI4, hfr4, hk4⟩
  rw [HRH.out]
  rw [hBl] at hI4
  obtain rfl := hI4.none (by simp [readC])
  have hb4 := hb3.keep0 hk4
  have hK4 := hK3.trans hk4
  clear hI4 hfr4 hk4 ho3 hf3 hk3 hb3 hK3 hbB hkAB
  have hbz4 := Blk.new w4 zeroH 76
  have hkz4 := (Keeps.refl Nil w4).alloc (.cells zeroH.toArray 76)
  have hlt4 := hb4.lt
  go_wp2_with (refine wpl_store rfl 76 _ _ rfl w4.heap.size rfl V rfl hbz4 (by rw [hV34, hz34]) (by rw [hV34]; exact Tryd.infoHead) hV1 ?_)
  intro w5 hb5 hk5 hs5
  have hs45 : Keeps (One w4.heap.size) w4 w5 := (hkz4.nil (S := One w4.heap.size)).step hk5 (fun i hi => .inl hi)
  have hbw5 := hb4.keep hs45 (fun e => by have : w.heap.size = w4.heap.size := e; omega)
  have hK5 : Keeps Nil w w5 := hK4.step hs45 (fun i hi => .inr (by rw [show i = w4.heap.size from hi]; exact hK4.size))
  clear hbz4 hkz4 hk5 hs5 hs45 hb4 hK4
  generalize hg4 : w4.heap.size = g4 at *
  have hg4' : w.heap.size < g4 := by omega
  -- with what stands behind it
  -- the header's bytes once more: block hbw5 holds it; world w5, what it keeps hK5
  go_wp2_with (refine wpl_load rfl 76 _ rfl w.heap.size rfl hbw5 _ Tryd.underlying76 rfl (by rw [hV34]; exact Tryd.infoHead) ?_)
  go_wp2_with fail
  refine (HBW.out w5).mono ?_
  rintro e w6 ⟨a6, c6, rfl, ho6, hk6, hf6⟩
  rw [hBl] at ho6 ⊢
  have hb6 := hbw5.keep0 hk6
  have hK6 := hK5.trans hk6
  have hx6 := hb5.keep0 hk6
  have hrow6 := hrow.keep hK6
  have hlt5 := hb5.lt
  have hsz5 := hK5.size
  have hlw5 := hbw5.lt
  clear hbw5 hb5 hK5
  go_wp2_with (at_builtin; go_must (refine wpl_append rfl _ _ 36 rfl 5 1 1 Tryd.underlying36 Tryd.info8s (by omega) _ _ 40 _ rfl ho6 _ len cap (byteV Z) rfl (hrow6.src hnil) (by unfold maxLen; omega) (by omega) ?_))
  intro a7 c7 w7 ho7 hk7 hf7 hn7
  have hf6' : ∀ k, blkOf a6 k → w5.heap.size ≤ k := hf6
  have hx7 := hx6.keep hk7 (fun e => by have := hf6' _ e; omega)
  have hbw7 := hb6.keep hk7 (fun e => by have := hf6' _ e; omega)
  have hK7 : Keeps Nil w w7 := hK6.step hk7 (fun i hi => .inr (by have := hf6' i hi; omega))
  obtain ⟨g7, rfl, hg7, _⟩ := ho7.some (by omega)
  have hbz : byteV B ++ byteV Z = byteV (B ++ Z) := by simp [byteV]
  rw [hbz] at ho7
  have hrow7 := ho7.row HWF.out.2.1
  have hcap7 := ho7.2.1
  clear hbz hf6 hf6' hx6 hb6 hK6 hk6 hk7 ho6 ho7 hf7 hn7 hrow6 hlt5 hsz5 hlw5
  go_wp2_with fail
  refine (headCut_ok (hE.keep hK7) hrow7 hcap7 (by omega) (by omega)).mono ?_
  rintro e w8 ⟨a8, c8, rfl, ho8, hk8, hf8⟩
  have hll : (B ++ Z).length - 40 = len := by rw [HBZ.out]; omega
  rw [HBK.out.1, HBK.out.2.2.1, HBK.out.2.2.2, HVV.out]
  rw [hll, HBK.out.2.1] at ho8
  rw [hll]
  have hx8 := hx7.keep0 hk8
  have hbw8 := hbw7.keep0 hk8
  have hK8 := hK7.trans hk8
  have hf8' : ∀ k, blkOf a8 k → w.heap.size ≤ k := fun k hk => by have := hf8 k hk; have := hK7.size; omega
  have hbz8 := Blk.new w8 zeroH 76
  have hkz8 := (Keeps.refl Nil w8).alloc (.cells zeroH.toArray 76)
  have hlt8 := hx8.lt
  have hlw8 := hbw8.lt
  have hla8 := ho8.lt
  clear hll hx7 hbw7 hK7 hk8 hf8 hrow7
  go_wp2_with (refine wpl_store rfl 76 _ _ rfl w8.heap.size rfl V rfl hbz8 (by rw [hV34, hz34]) (by rw [hV34]; exact Tryd.infoHead) hV1 ?_)
  intro w9 hb9 hk9 hs9
  have hs89 : Keeps (One w8.heap.size) w8 w9 := (hkz8.nil (S := One w8.heap.size)).step hk9 (fun i hi => .inl hi)
  have hx9 := hx8.keep hs89 (fun e => by have : g4 = w8.heap.size := e; omega)
  have hbw9 := hbw8.keep hs89 (fun e => by have : w.heap.size = w8.heap.size := e; omega)
  have ho9 := ho8.keep hs89 (fun k hk e => by have h1 := hla8 k hk; have h2 : k = w8.heap.size := e; omega)
  have hK9 : Keeps Nil w w9 := hK8.step hs89 (fun i hi => .inr (by rw [show i = w8.heap.size from hi]; exact hK8.size))
  clear hbz8 hkz8 hk9 hs9 hs89 hx8 hbw8 ho8 hla8
  generalize hg8 : w8.heap.size = g8 at *
  -- one byte more
  -- the header's bytes once more: block hbw9 holds it; world w9, what it keeps hK9
  go_wp2_with (refine wpl_load rfl 76 _ rfl w.heap.size rfl hbw9 _ Tryd.underlying76 rfl (by rw [hV34]; exact Tryd.infoHead) ?_)
  go_wp2_with fail
  refine (HBW.out w9).mono ?_
  rintro e w10 ⟨a10, c10, rfl, ho10, hk10, hf10⟩
  rw [hBl] at ho10 ⊢
  have hb10 := hbw9.keep0 hk10
  have hK10 := hK9.trans hk10
  have hx10 := hx9.keep0 hk10
  have hy10 := hb9.keep0 hk10
  have ho10b := ho9.keep0 hk10
  have hlt9 := hx9.lt
  have hly9 := hb9.lt
  have hlw9 := hbw9.lt
  have hla9 := ho9.lt
  have hsz9 := hK9.size
  clear hbw9 hb9 hx9 ho9 hK9
  go_wp2_with (first | (refine wpList_bs rfl 36 5 1 _ rfl [.int .u8 1] Tryd.underlying36 Tryd.bs8 rfl (by decide) (by decide) rfl (by simp [Value.cells]) ?_) | (at_builtin; go_must (refine wpl_append rfl _ _ 36 rfl 5 1 1 Tryd.underlying36 Tryd.info8s (by omega) _ _ 40 _ rfl (ho10.keep0 ((Keeps.refl _ _).alloc _)) _ 1 1 [.int .u8 1] rfl (Src.one (Blk.new _ _ _) rfl) (by unfold maxLen; omega) (by omega) ?_)))
  intro a11 c11 w11 ho11 hk11 hf11 hn11
  have hf10' : ∀ k, blkOf a10 k → w9.heap.size ≤ k := hf10
  have hk11' : Keeps (blkOf a10) w10 w11 := ((Keeps.refl _ w10).alloc _).step hk11 (fun i hi => .inl hi)
  have hx11 := hx10.keep hk11' (fun e => by have := hf10' _ e; omega)
  have hy11 := hy10.keep hk11' (fun e => by have := hf10' _ e; omega)
  have hbw11 := hb10.keep hk11' (fun e => by have := hf10' _ e; omega)
  have hoZ := ho10b.keep hk11' (fun k hk e => by have h1 := hf10' _ e; have h2 := hla9 k hk; omega)
  have hK11 : Keeps Nil w w11 := hK10.step hk11' (fun i hi => .inr (by have := hf10' i hi; omega))
  have hrow11 := Own.row (k := .u8) (l := B ++ [1]) (by simpa [byteV] using ho11) HWF.out.2.2
  obtain ⟨g11, rfl, hg11, _⟩ := ho11.some (by omega)
  have hB1 : (B ++ [1]).length = 41 := by rw [List.length_append, hBl]; rfl
  clear hx10 hy10 hb10 ho10b hK10 hk10 hf10 hf10' hk11 hk11' ho11 hf11 hn11 ho10 hlt9 hly9 hlw9 hla9 hsz9
  go_wp2_with fail
  refine (headRead_walk (hE.keep hK11) hrow11 (fun h => by cases h) (by omega)).mono ?_
  rintro e w12 ⟨v12, rfl, hI12, hfr12, hk12⟩
  have hR1 : readH (B ++ [1]) = zeroH := by unfold readH; rw [if_neg (by omega)]
  rw [hR1]
  rw [hB1] at hI12
  have hI12' : IsErr w12 p v12 104 true 40 := hI12
  have hx12 := hx11.keep0 hk12
  have hy12 := hy11.keep0 hk12
  have hbw12 := hbw11.keep0 hk12
  have hoZ12 := hoZ.keep0 hk12
  have hK12 := hK11.trans hk12
  have hbz12 := Blk.new w12 zeroH 76
  have hkz12 := (Keeps.refl Nil w12).alloc (.cells zeroH.toArray 76)
  have hlt12 := hx12.lt
  have hly12 := hy12.lt
  have hlw12 := hbw12.lt
  have hla12 := hoZ12.lt
  clear hR1 hx11 hy11 hbw11 hoZ hK11 hk12 hI12 hfr12 hrow11 hB1
  generalize hzz : zeroH = zc at *
  clear hzz
  go_wp2_with (refine wpl_store rfl 76 _ _ rfl w12.heap.size rfl zc rfl hbz12 rfl (by rw [hz34]; exact Tryd.infoHead) hz1 ?_)
  intro w13 hb13 hk13 hs13
  have hs1213 : Keeps (One w12.heap.size) w12 w13 := (hkz12.nil (S := One w12.heap.size)).step hk13 (fun i hi => .inl hi)
  have hx13 := hx12.keep hs1213 (fun e => by have : g4 = w12.heap.size := e; omega)
  have hy13 := hy12.keep hs1213 (fun e => by have : g8 = w12.heap.size := e; omega)
  have hbw13 := hbw12.keep hs1213 (fun e => by have : w.heap.size = w12.heap.size := e; omega)
  have hoZ13 := hoZ12.keep hs1213 (fun k hk e => by have h1 := hla12 k hk; have h2 : k = w12.heap.size := e; omega)
  have hI13 := hI12'.keepS hs1213 (fun bb hbb e => by have h1 := hI12'.lt bb hbb; have h2 : bb = w12.heap.size := e; omega)
  have hK13 : Keeps Nil w w13 := hK12.step hs1213 (fun i hi => .inr (by rw [show i = w12.heap.size from hi]; exact hK12.size))
  clear hbz12 hkz12 hb13 hk13 hs13 hs1213 hx12 hy12 hbw12 hoZ12 hI12' hK12 hla12
  have hrowR := hoZ13.row hrow.wf
  have hrowZ := hrow.keep hK13
  go_wp2_with (first | (refine wpl_load rfl 76 _ rfl w.heap.size rfl hbw13 _ Tryd.underlying76 rfl (by rw [hV34]; exact Tryd.infoHead) ?_) | (refine wpl_load rfl 76 _ rfl g4 rfl hx13 _ Tryd.underlying76 rfl (by rw [hV34]; exact Tryd.infoHead) ?_) | (refine wpl_load rfl 76 _ rfl g8 rfl hy13 _ Tryd.underlying76 rfl (by rw [hV34]; exact Tryd.infoHead) ?_))
  refine (sameBytes_walk hrowR hrowZ).mono ?_
  rintro e w14 ⟨rfl, hd14⟩
  have hsl : sameL Z Z = true := by simp [sameL]
  rw [hsl]
  have hk14 := hd14.keeps Nil
  clear hsl hd14 hrowR hrowZ hoZ13 hbw13 hx13 hy13
  go_wp2_with fail
  refine (placed_walk 104 40 _ (by omega)).mono ?_
  rintro e w15 ⟨rfl, hk15⟩
  have hk1315 := hk14.trans hk15
  have hI15 := hI13.keep hk1315
  have hK15 := hK13.trans hk1315
  clear hk1315 hk14 hk15 hI13 hK13
  go_wp2_with fail
  refine (same_walk (hE.keep hK15) hI15 _ _ _).mono ?_
  rintro e w16 ⟨rfl, hk16⟩
  have hS : sameF 104 true 40 104 true 40 = true := by decide
  rw [hS]
  go_wp2_with fail
  go_ret
  exact ⟨by first | rfl | simp, hK15.trans hk16⟩
end Go.Proofs.YtdkfhfflhglmaaaDoor
