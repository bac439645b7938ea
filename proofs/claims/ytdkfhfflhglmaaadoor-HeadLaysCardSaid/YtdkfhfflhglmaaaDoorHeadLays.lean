/-
  The law HeadLays.
-/
import Derived.Test.YtdkfhfflhglmaaaDoorHeadCut
import Derived.Test.YtdkfhfflhglmaaaDoorVars
namespace Go.Proofs.YtdkfhfflhglmaaaDoor
open Go.RowKit

theorem sameL_refl (l : List Int) : sameL l l = true := by simp [sameL]
/-- A number shifted by a byte, with the next one. -/
theorem shiftOr (x b : Int) (hx : 0 ≤ x) (hx2 : x < 16777216) (hb : 0 ≤ b) (hb2 : b < 256) : bits .or .u32 (x * 256) b = x * 256 + b := by
  have hl : (x * 256).toNat ||| b.toNat = (x * 256).toNat + b.toNat := by
    rw [show (x * 256).toNat = x.toNat * 2 ^ 8 by omega]
    rw [Nat.mul_comm, ← Nat.two_pow_add_eq_or_of_lt (by omega : b.toNat < 2 ^ 8)]
  have h1 : (BitVec.ofInt 32 (x * 256)).toNat = (x * 256).toNat := by rw [BitVec.toNat_ofInt]; omega
  have h2 : (BitVec.ofInt 32 b).toNat = b.toNat := by rw [BitVec.toNat_ofInt]; omega
  show IntKind.u32.wrap ((BitVec.ofInt 32 (x * 256) ||| BitVec.ofInt 32 b).toNat : Int) = _
  rw [BitVec.toNat_or, h1, h2, hl, IntKind.wrap_u32]
  omega


set_option maxRecDepth 100000 in
set_option maxHeartbeats 8000000 in
theorem headLays_walk (k : List Int) (pn n : Int) (c : Int) (w : World) (w0 : IsHead k pn n) (w1 : (Lit.int .i64 c).wf = true) {p : Nat → Addr} (hE : Errs w p) :
    Calls Tryd.prog 14 #[.agg (headV k pn n).toArray, .int .i64 c] w (TrueC w) := by
  have hc := i64_wf w1
  clear w1
  have hzv := Tryd.zeroHead
  have hHA := (Has.nil w).cons (headV k pn n) 76 rfl
  have hkA : Keeps Nil w (w.alloc (.cells (headV k pn n).toArray 76)) := (Keeps.refl Nil w).alloc _
  have hV34 := headV_len k pn n w0.len
  have HV := Lib.hid (show headV k pn n = headV k pn n from rfl)
  generalize hVV : headV k pn n = V at *
  have HVV := Lib.hid hVV
  clear hVV HV
  go_enter Tryd.func14, Tryd.ntmps14
  go_wp2_with fail
  generalize (w.alloc (.cells V.toArray 76)) = wA at *
  refine (headfirst_walk (hE.keep hkA)).mono ?_
  rintro e wB ⟨rfl, hkB⟩
  have hHB := hHA.keep0 hkB
  have hkAB := hkA.trans hkB
  clear hkA hkB hHA
  have hbB := hHB.at 0 (g := w.heap.size) rfl
  go_wp2_with (refine wpl_load rfl 76 _ rfl w.heap.size rfl hbB _ Tryd.underlying76 rfl (by rw [hV34]; exact Tryd.infoHead) ?_)
  go_wp2_with fail
  have hBl := headB_len w0
  have hBb := headB_bytes w0
  have hT32 : (headB k pn n).take 32 = k := by
    unfold headB
    rw [List.append_assoc, List.take_append_of_le_length (by rw [w0.len]; omega), List.take_of_length_le (by rw [w0.len]; omega)]
  have HBT := Lib.hid hT32
  have hwfB : ∀ x ∈ headB k pn n, (Lit.int .u8 x).wf = true := fun x hx => by have := hBb x hx; simp [Lit.wf, IntKind.min, IntKind.max, IntKind.signed, IntKind.bits]; omega
  clear hT32
  rw [← HVV.out]
  refine (headBytes_walk w0 wB).mono ?_
  rintro e wC ⟨aC, cC, rfl, hoC, hkC, hfC⟩
  rw [HVV.out]
  rw [hBl] at hoC ⊢
  have hcapC : 40 ≤ cC := hoC.2.1
  have hc32 : (32 : Int) ≤ (cC : Int) := by omega
  have hcap32 : 32 ≤ cC := by omega
  have hcz : ¬ cC = 0 := by omega
  obtain ⟨bC, rfl, hbC, _⟩ := hoC.some (by omega)
  have hrowC : Row .u8 wC (some ⟨bC, 0, none⟩) 40 (headB k pn n) := hoC.row hwfB
  have hkW := hkAB.trans hkC
  have hHC := hHB.keep0 hkC
  have hrow32 : Row .u8 wC (some ⟨bC, 0, none⟩) 32 k := by
    refine ⟨w0.len, by omega, fun _ => ?_, fun x hx => by have := w0.byte x hx; simp [Lit.wf, IntKind.min, IntKind.max, IntKind.signed, IntKind.bits]; omega⟩
    obtain ⟨b, off, ha, hb, hcc⟩ := hrowC.cell (by omega)
    refine ⟨b, off, ha, hb, fun i hi => ?_⟩
    rw [hcc i (by omega)]
    have h1 : (headB k pn n).getD i 0 = ((headB k pn n).take 32).getD i 0 := by simp [List.getD, hi]
    rw [h1, HBT.out]
  have hrowH : Row .u8 wC (some ⟨w.heap.size, 0, none⟩) 32 k := headRow w0 (by rw [HVV.out]; exact hHC.at 0 rfl)
  have HRR := Lib.hid (And.intro hrow32 hrowH)
  clear hrow32 hrowH hoC hkC hfC hHB hkAB hbB
  go_wp2_with fail
  go_region_held3 (fun w' => True) (first | exact trivial) (first | (go_at_call 34; refine (sameBytes_walk (HRR.out.1.keep (Keeps.refl Nil _).drew) (HRR.out.2.keep (Keeps.refl Nil _).drew)).mono ?_; rintro e9 w9 ⟨rfl, hd9⟩; have hkD := (Keeps.refl Nil wC).drew.trans (hd9.keeps Nil)))
  rw [sameL_refl]
  have hkX := hkW.trans hkD
  have hHX := hHC.keep0 hkD
  have hrowX := hrowC.keep hkD
  clear hkW hkD hHC hrowC HRR
  go_wp2_with fail
  have hp := w0.pn
  have hnn := w0.n
  have hcell : ∀ i x, i < 40 → (headB k pn n).getD i 0 = x → w9.cell? ⟨bC, i, none⟩ = some (.int .u8 x) := fun i x hi hx => by
    obtain ⟨b, off, ha, hb, hcc⟩ := hrowX.cell (by omega)
    cases ha
    have := hcc i hi
    rw [Nat.zero_add, hx] at this
    exact this
  have hget : ∀ i, i < 8 → (headB k pn n).getD (32 + i) 0 = (le4 pn ++ le4 n).getD i 0 := fun i hi => by
    unfold headB
    rw [List.append_assoc]
    simp [List.getD, List.getElem?_append_right, w0.len]
  go_loopw [7, 8, 9] (fun v7 v8 v9 wr => ∃ j : Nat, j ≤ 4 ∧ v9 = .int .i64 ((j : Int) - 1) ∧ v8 = .int .u32 (pn / 256 ^ j) ∧ v7 = .int .u32 (n / 256 ^ j) ∧ Hid (Keeps Nil w9 wr)) (fun _ _ v _ => (intOf v + 1).toNat)
  case atStart => exact ⟨4, Nat.le_refl _, rfl, by rw [show pn / 256 ^ 4 = 0 by omega], by rw [show n / 256 ^ 4 = 0 by omega], Keeps.refl _ _⟩
  case round =>
    obtain ⟨j, hj, rfl, rfl, rfl, hkL⟩ := hrel
    match j, hj with
    | 0, _ =>
      go_wp2_with fail
      have hkY := hkX.trans hkL.out
      have hkL0 : Keeps Nil w9 wr := hkL.out
      have hbW : bC < w9.heap.size := by obtain ⟨b, off, ha, hb, _⟩ := hrowX.cell (by omega); cases ha; exact hb
      have hHY := hHX.keep0 hkL.out
      have hrowY := hrowX.keep hkL.out
      clear hcell hget hkX hHX hrowX hkL
      refine (number_walk c 40 _ hc.1 hc.2 (by omega) (by omega)).mono ?_
      rintro e wx ⟨rfl, rfl⟩
      obtain ⟨m, hm, hmod⟩ : ∃ m : Nat, m < 40 ∧ c % 40 = m := ⟨(c % 40).toNat, by omega, by omega⟩
      rw [hmod]
      have hm0 : (0 : Int) ≤ m := by omega
      have hm1 : (m : Int) ≤ cC := by omega
      have hm2 : m ≤ cC := by omega
      have hXm : ((headB k pn n).take m).length = m := by rw [List.length_take]; omega
      have hrowM : Row .u8 wr (some ⟨bC, 0, none⟩) m ((headB k pn n).take m) := ⟨hXm, by omega, fun h0 => by
        obtain ⟨b, off, ha, hb, hcc⟩ := hrowY.cell (by omega)
        refine ⟨b, off, ha, hb, fun j hj => ?_⟩
        rw [hcc j (by omega)]
        simp [List.getD, hj], fun x hx => hwfB x (List.mem_of_mem_take hx)⟩
      clear hmod hc
      go_wp2_with fail
      refine (headRead_walk (hE.keep hkY) hrowM (fun h => by cases h) (by omega)).mono ?_
      rintro e wR ⟨v, rfl, hI, hfr, hkR⟩
      have eH : readH ((headB k pn n).take m) = zeroH := by unfold readH; rw [if_neg (by omega)]
      have e1 : readC ((headB k pn n).take m).length = 103 := by rw [hXm]; unfold readC; rw [if_neg (by omega), if_pos (by omega)]
      have e2 : readP ((headB k pn n).take m).length = true := by rw [hXm]; unfold readP; exact decide_eq_true (by omega)
      have e3 : readQ ((headB k pn n).take m).length = headQ m := by rw [hXm]; unfold readQ; rw [if_neg (by omega), if_pos (by omega)]
      rw [eH]
      rw [e1, e2, e3] at hI
      have hz34 : zeroH.length = 34 := headV_len zk 0 0 zk_len
      have hz1 : ∀ v ∈ zeroH, v.oneCell' = true := headV_one zk 0 0
      have HC := Lib.hid (fun (wx : World) (hk : Keeps Nil w wx) (hr : Row .u8 wx (some ⟨bC, 0, none⟩) m ((headB k pn n).take m)) => headCut_bad (hE.keep hk) hr (capb := cC) (fun h => by cases h) hm2 hm)
      have hbR := Blk.new wR zeroH 76
      have hkb := (Keeps.refl Nil wR).alloc (.cells zeroH.toArray 76)
      have hkRW := hkY.trans hkR
      have hHR := hHY.keep0 hkR
      have hrowR := hrowM.keep hkR
      have hltR := (hHR.at 0 (g := w.heap.size) rfl).lt
      have hkR' : bC < wR.heap.size := by have h1 := hkL0.size; have h2 := hkR.size; omega
      clear hkY hHY hrowY hrowM hkR eH e1 e2 e3 hfr
      have HW := Lib.hid (And.intro hBb (And.intro hwfB hXm))
      clear hBb hwfB hXm
      generalize hzz : zeroH = zc at *
      have HZC := Lib.hid hzz
      clear hzz
      go_wp2_with (refine wpl_store rfl 76 _ _ rfl wR.heap.size rfl zc rfl hbR rfl (by rw [hz34]; exact Tryd.infoHead) hz1 ?_)
      intro w2 hb2 hk2 hs2
      have hKs : Keeps (One wR.heap.size) wR w2 := (hkb.nil (S := One wR.heap.size)).step hk2 (fun i hi => .inl hi)
      have hK2 : Keeps Nil w w2 := hkRW.step hKs (fun i hi => .inr (by rw [show i = wR.heap.size from hi]; exact hkRW.size))
      have hI2 := hI.keepS hKs (fun bb hbb e => by have h1 := hI.lt bb hbb; have h2 : bb = wR.heap.size := e; omega)
      have hH2 := hHR.keep hKs (fun x hx e => by
        simp only [List.mem_cons, List.not_mem_nil, or_false] at hx
        subst hx
        have : w.heap.size = wR.heap.size := e
        omega)
      have hrow2 := hrowR.keepB hKs (fun b hb e => by
        obtain ⟨x, hx, rfl⟩ := hb
        cases hx
        have h9 : bC = wR.heap.size := e
        have h8 := hkR'
        omega)
      clear hKs hk2 hkb hbR hb2 hI hHR hrowR hkRW
      go_wp2_with fail
      refine (HC.out w2 hK2 hrow2).mono ?_
      rintro e w3 ⟨v2, rfl, hI3, hfr3, hk3⟩
      rw [HZC.out]
      rw [HW.out.2.2] at hI3
      have hI4 := hI2.keep hk3
      have hH3 := hH2.keep0 hk3
      have hK3 := hK2.trans hk3
      have hb3 := Blk.new w3 zc 76
      have hkb3 := (Keeps.refl Nil w3).alloc (.cells zc.toArray 76)
      have hlt3 := (hH3.at 0 (g := w.heap.size) rfl).lt
      clear hI2 hH2 hk3 hK2 hrow2 hfr3 HC
      go_wp2_with (refine wpl_store rfl 76 _ _ rfl w3.heap.size rfl zc rfl hb3 rfl (by rw [hz34]; exact Tryd.infoHead) hz1 ?_)
      intro w4 hb4 hk4 hs4
      have hKs : Keeps (One w3.heap.size) w3 w4 := (hkb3.nil (S := One w3.heap.size)).step hk4 (fun i hi => .inl hi)
      have hK4 : Keeps Nil w w4 := hK3.step hKs (fun i hi => .inr (by rw [show i = w3.heap.size from hi]; exact hK3.size))
      have hI5 := hI4.keepS hKs (fun bb hbb e => by have h1 := hI4.lt bb hbb; have h2 : bb = w3.heap.size := e; omega)
      have hI6 := hI3.keepS hKs (fun bb hbb e => by have h1 := hI3.lt bb hbb; have h2 : bb = w3.heap.size := e; omega)
      have hH4 := hH3.keep hKs (fun x hx e => by
        simp only [List.mem_cons, List.not_mem_nil, or_false] at hx
        subst hx
        have : w.heap.size = w3.heap.size := e
        omega)
      clear hKs hk4 hkb3 hb3 hb4 hI4 hI3 hH3 hK3
      have cpn := (hH4.at 0 (g := w.heap.size) rfl).cell 32 (by rw [← HVV.out]; exact headV_pn k pn n w0.len)
      have cn := (hH4.at 0 (g := w.heap.size) rfl).cell 33 (by rw [← HVV.out]; exact headV_n k pn n w0.len)
      have HQ := Lib.hid (show headQ m = if m < 32 then 0 else if m < 36 then 32 else 36 from rfl)
      by_cases h32 : m < 32
      · have hq : (headQ m : Int) = 0 := by rw [HQ.out, if_pos h32]; rfl
        rw [hq] at hI5 hI6
        clear hq
        go_wp2_with fail
        refine (placed_walk 103 0 _ (by omega)).mono ?_
        rintro e w5 ⟨rfl, hk5⟩
        have hfB := Blk.new w5 [.int .i64 103, .bool true, .int .i64 0] 57
        have hkf := hk5.alloc (.cells #[.int .i64 103, .bool true, .int .i64 0] 57)
        have hI7 := hI5.keep hkf
        have hI8 := hI6.keep hkf
        have hK5 := hK4.trans hkf
        have cpn5 := hkf.cell cpn (fun h => h)
        have cn5 := hkf.cell cn (fun h => h)
        have hS : sameF 103 true 0 103 true 0 = true := by decide
        clear hI5 hI6 hk5 hkf cpn cn
        go_wp2_with (refine wpl_load rfl 57 _ rfl w5.heap.size rfl hfB _ Tryd.underlying57 rfl Tryd.sizeFault ?_)
        go_wp2_with fail
        refine (same_walk (hE.keep hK5) hI7 _ _ _).mono ?_
        rintro e w6 ⟨rfl, hk6⟩
        rw [hS]
        have hfB6 := hfB.keep0 hk6
        go_wp2_with (refine wpl_load rfl 57 _ rfl w5.heap.size rfl hfB6 _ Tryd.underlying57 rfl Tryd.sizeFault ?_)
        go_wp2_with fail
        refine (same_walk (hE.keep (hK5.trans hk6)) (hI8.keep hk6) _ _ _).mono ?_
        rintro e w7 ⟨rfl, hk7⟩
        rw [hS]
        go_wp2_with fail
        go_ret
        exact ⟨by simp, hK5.trans (hk6.trans hk7)⟩
      by_cases h36 : m < 36
      · have hq : (headQ m : Int) = 32 := by rw [HQ.out, if_neg h32, if_pos h36]; rfl
        rw [hq] at hI5 hI6
        clear hq
        go_wp2_with fail
        refine (placed_walk 103 32 _ (by omega)).mono ?_
        rintro e w5 ⟨rfl, hk5⟩
        have hfB := Blk.new w5 [.int .i64 103, .bool true, .int .i64 32] 57
        have hkf := hk5.alloc (.cells #[.int .i64 103, .bool true, .int .i64 32] 57)
        have hI7 := hI5.keep hkf
        have hI8 := hI6.keep hkf
        have hK5 := hK4.trans hkf
        have cpn5 := hkf.cell cpn (fun h => h)
        have cn5 := hkf.cell cn (fun h => h)
        have hS : sameF 103 true 32 103 true 32 = true := by decide
        clear hI5 hI6 hk5 hkf cpn cn
        go_wp2_with (refine wpl_load rfl 57 _ rfl w5.heap.size rfl hfB _ Tryd.underlying57 rfl Tryd.sizeFault ?_)
        go_wp2_with fail
        refine (same_walk (hE.keep hK5) hI7 _ _ _).mono ?_
        rintro e w6 ⟨rfl, hk6⟩
        rw [hS]
        have hfB6 := hfB.keep0 hk6
        go_wp2_with (refine wpl_load rfl 57 _ rfl w5.heap.size rfl hfB6 _ Tryd.underlying57 rfl Tryd.sizeFault ?_)
        go_wp2_with fail
        refine (same_walk (hE.keep (hK5.trans hk6)) (hI8.keep hk6) _ _ _).mono ?_
        rintro e w7 ⟨rfl, hk7⟩
        rw [hS]
        go_wp2_with fail
        go_ret
        exact ⟨by simp, hK5.trans (hk6.trans hk7)⟩
      · have hq : (headQ m : Int) = 36 := by rw [HQ.out, if_neg h32, if_neg h36]; rfl
        rw [hq] at hI5 hI6
        clear hq
        go_wp2_with fail
        refine (placed_walk 103 36 _ (by omega)).mono ?_
        rintro e w5 ⟨rfl, hk5⟩
        have hfB := Blk.new w5 [.int .i64 103, .bool true, .int .i64 36] 57
        have hkf := hk5.alloc (.cells #[.int .i64 103, .bool true, .int .i64 36] 57)
        have hI7 := hI5.keep hkf
        have hI8 := hI6.keep hkf
        have hK5 := hK4.trans hkf
        have cpn5 := hkf.cell cpn (fun h => h)
        have cn5 := hkf.cell cn (fun h => h)
        have hS : sameF 103 true 36 103 true 36 = true := by decide
        clear hI5 hI6 hk5 hkf cpn cn
        go_wp2_with (refine wpl_load rfl 57 _ rfl w5.heap.size rfl hfB _ Tryd.underlying57 rfl Tryd.sizeFault ?_)
        go_wp2_with fail
        refine (same_walk (hE.keep hK5) hI7 _ _ _).mono ?_
        rintro e w6 ⟨rfl, hk6⟩
        rw [hS]
        have hfB6 := hfB.keep0 hk6
        go_wp2_with (refine wpl_load rfl 57 _ rfl w5.heap.size rfl hfB6 _ Tryd.underlying57 rfl Tryd.sizeFault ?_)
        go_wp2_with fail
        refine (same_walk (hE.keep (hK5.trans hk6)) (hI8.keep hk6) _ _ _).mono ?_
        rintro e w7 ⟨rfl, hk7⟩
        rw [hS]
        go_wp2_with fail
        go_ret
        exact ⟨by simp, hK5.trans (hk6.trans hk7)⟩
    | 1, _ =>
      have d1 := hkL.out.cell (hcell 32 (pn % 256) (by omega) (by have h := hget 0 (by omega); simpa [le4] using h)) (fun h => h)
      have d2 := hkL.out.cell (hcell 36 (n % 256) (by omega) (by have h := hget 4 (by omega); simpa [le4] using h)) (fun h => h)
      have b1 : 0 ≤ pn % 256 ∧ pn % 256 < 256 := by omega
      have b2 : 0 ≤ n % 256 ∧ n % 256 < 256 := by omega
      have g1 : bits .or .u32 (pn / 256 * 256) (pn % 256) = pn / 256 ^ 0 := by
        rw [shiftOr (pn / 256) (pn % 256) (by omega) (by omega) b1.1 b1.2]; omega
      have g2 : bits .or .u32 (n / 256 * 256) (n % 256) = n / 256 ^ 0 := by
        rw [shiftOr (n / 256) (n % 256) (by omega) (by omega) b2.1 b2.2]; omega
      have HG := Lib.hid (And.intro g1 g2)
      clear g1 g2
      go_wp2_with fail
      refine ⟨⟨0, by omega, rfl, ?_, ?_, hkL⟩, by decide⟩
      · rw [HG.out.1]
      · rw [HG.out.2]
    | 2, _ =>
      have d1 := hkL.out.cell (hcell 33 (pn / 256 % 256) (by omega) (by have h := hget 1 (by omega); simpa [le4] using h)) (fun h => h)
      have d2 := hkL.out.cell (hcell 37 (n / 256 % 256) (by omega) (by have h := hget 5 (by omega); simpa [le4] using h)) (fun h => h)
      have b1 : 0 ≤ pn / 256 % 256 ∧ pn / 256 % 256 < 256 := by omega
      have b2 : 0 ≤ n / 256 % 256 ∧ n / 256 % 256 < 256 := by omega
      have g1 : bits .or .u32 (pn / 65536 * 256) (pn / 256 % 256) = pn / 256 ^ 1 := by
        rw [shiftOr (pn / 65536) (pn / 256 % 256) (by omega) (by omega) b1.1 b1.2]; omega
      have g2 : bits .or .u32 (n / 65536 * 256) (n / 256 % 256) = n / 256 ^ 1 := by
        rw [shiftOr (n / 65536) (n / 256 % 256) (by omega) (by omega) b2.1 b2.2]; omega
      have HG := Lib.hid (And.intro g1 g2)
      clear g1 g2
      go_wp2_with fail
      refine ⟨⟨1, by omega, rfl, ?_, ?_, hkL⟩, by decide⟩
      · rw [HG.out.1]
      · rw [HG.out.2]
    | 3, _ =>
      have d1 := hkL.out.cell (hcell 34 (pn / 65536 % 256) (by omega) (by have h := hget 2 (by omega); simpa [le4] using h)) (fun h => h)
      have d2 := hkL.out.cell (hcell 38 (n / 65536 % 256) (by omega) (by have h := hget 6 (by omega); simpa [le4] using h)) (fun h => h)
      have b1 : 0 ≤ pn / 65536 % 256 ∧ pn / 65536 % 256 < 256 := by omega
      have b2 : 0 ≤ n / 65536 % 256 ∧ n / 65536 % 256 < 256 := by omega
      have g1 : bits .or .u32 (pn / 16777216 * 256) (pn / 65536 % 256) = pn / 256 ^ 2 := by
        rw [shiftOr (pn / 16777216) (pn / 65536 % 256) (by omega) (by omega) b1.1 b1.2]; omega
      have g2 : bits .or .u32 (n / 16777216 * 256) (n / 65536 % 256) = n / 256 ^ 2 := by
        rw [shiftOr (n / 16777216) (n / 65536 % 256) (by omega) (by omega) b2.1 b2.2]; omega
      have HG := Lib.hid (And.intro g1 g2)
      clear g1 g2
      go_wp2_with fail
      refine ⟨⟨2, by omega, rfl, ?_, ?_, hkL⟩, by decide⟩
      · rw [HG.out.1]
      · rw [HG.out.2]
    | 4, _ =>
      have d1 := hkL.out.cell (hcell 35 (pn / 16777216) (by omega) (by have h := hget 3 (by omega); simpa [le4] using h)) (fun h => h)
      have d2 := hkL.out.cell (hcell 39 (n / 16777216) (by omega) (by have h := hget 7 (by omega); simpa [le4] using h)) (fun h => h)
      have b1 : 0 ≤ pn / 16777216 ∧ pn / 16777216 < 256 := by omega
      have b2 : 0 ≤ n / 16777216 ∧ n / 16777216 < 256 := by omega
      have g1 : bits .or .u32 (pn / 4294967296 * 256) (pn / 16777216) = pn / 256 ^ 3 := by
        rw [shiftOr (pn / 4294967296) (pn / 16777216) (by omega) (by omega) b1.1 b1.2]; omega
      have g2 : bits .or .u32 (n / 4294967296 * 256) (n / 16777216) = n / 256 ^ 3 := by
        rw [shiftOr (n / 4294967296) (n / 16777216) (by omega) (by omega) b2.1 b2.2]; omega
      have HG := Lib.hid (And.intro g1 g2)
      clear g1 g2
      go_wp2_with fail
      refine ⟨⟨3, by omega, rfl, ?_, ?_, hkL⟩, by decide⟩
      · rw [HG.out.1]
      · rw [HG.out.2]
    | m + 5, h => omega
end Go.Proofs.YtdkfhfflhglmaaaDoor
