/-
  The law MacSays.
-/
import Derived.Test.YtnkahfpinkgimaaDoorMacErr
import Derived.Test.YtnkahfpinkgimaaDoorMacPrefixes
import Derived.Test.YtnkahfpinkgimaaDoorBin
namespace Go.Proofs.YtnkahfpinkgimaaDoor
set_option linter.unusedSimpArgs false
set_option linter.unusedVariables false
open Go.RowKit

theorem Tryd.eqgH2 : Tryd.prog.eqGuardType Tryd.prog.depth 36 = false := by kernel_rfl
theorem Tryd.guardH2 (op : BinOp) (x y : Operand) (xs ys : Array Value) (w : World) : (eqGuard op 36 x y (.agg xs) (.agg ys)).run Tryd.prog w = .ok () w := run_eqGuard_agg w op _ x y xs ys Tryd.eqgH2
theorem Tryd.eqlHsame {l : List Int} (hl : l.length = 32) (bl : AreB l) (w : World) : (binOp .eql 36 (.agg (byteV l).toArray) (.agg (byteV l).toArray)).run Tryd.prog w = .ok (.bool true) w := by
  have := Tryd.eqlDig hl hl bl bl w
  simpa using this
set_option maxRecDepth 20000 in
set_option maxHeartbeats 6400000 in
theorem macSays_walk (a0 : Option Addr) (len0 cap0 : Nat) (z0 : List Int) (a1 : Option Addr) (len1 cap1 : Nat) (z1 : List Int) (a2 : Option Addr) (len2 cap2 : Nat) (z2 : List Int) (a3 : Option Addr) (len3 cap3 : Nat) (z3 : List Int) (a4 : Int) (w : World)
    (w0 : IsRow .u8 w a0 len0 cap0 z0) (w1 : IsRow .u8 w a1 len1 cap1 z1) (w2 : IsRow .u8 w a2 len2 cap2 z2) (w3 : IsRow .u8 w a3 len3 cap3 z3) (w4 : (Lit.int .i64 a4).wf = true) {p : Nat → Addr} (hE : Errs w p) :
    Calls Tryd.prog 4 #[.slice a0 len0 cap0, .slice a1 len1 cap1, .slice a2 len2 cap2, .slice a3 len3 cap3, .int .i64 a4] w (TrueS w) := by
  have hn := i64_wf w4
  have p0 := PieceOk.of_isRow w0
  have p1 := PieceOk.of_isRow w1
  have p2 := PieceOk.of_isRow w2
  have p3 := PieceOk.of_isRow w3
  clear w0 w1 w2 w3 w4
  have m0 : len0 ≤ 9223372036854775807 := p0.1.most
  have m1 : len1 ≤ 9223372036854775807 := p1.1.most
  have m2 : len2 ≤ 9223372036854775807 := p2.1.most
  have m3 : len3 ≤ 9223372036854775807 := p3.1.most
  by_cases b0 : 200 < len0
  · clear p0 p1 p2 p3 hE
    go_enter Tryd.func4, Tryd.ntmps4
    go_wp2_with fail
    refine (macfirst_walk w).mono ?_
    rintro e w1 ⟨rfl, hk1⟩
    go_wp2_with fail
    go_ret
    exact ⟨by first | rfl | simp, hk1⟩
  by_cases b1 : 200 < len1
  · clear p0 p1 p2 p3 hE
    go_enter Tryd.func4, Tryd.ntmps4
    go_wp2_with fail
    refine (macfirst_walk w).mono ?_
    rintro e w1 ⟨rfl, hk1⟩
    go_wp2_with fail
    go_ret
    exact ⟨by first | rfl | simp, hk1⟩
  by_cases b2 : 200 < len2
  · clear p0 p1 p2 p3 hE
    go_enter Tryd.func4, Tryd.ntmps4
    go_wp2_with fail
    refine (macfirst_walk w).mono ?_
    rintro e w1 ⟨rfl, hk1⟩
    go_wp2_with fail
    go_ret
    exact ⟨by first | rfl | simp, hk1⟩
  by_cases b3 : 100 < len3
  · clear p0 p1 p2 p3 hE
    go_enter Tryd.func4, Tryd.ntmps4
    go_wp2_with fail
    refine (macfirst_walk w).mono ?_
    rintro e w1 ⟨rfl, hk1⟩
    go_wp2_with fail
    go_ret
    exact ⟨by first | rfl | simp, hk1⟩
  generalize z0.take len0 = Z0 at *
  generalize z1.take len1 = Z1 at *
  generalize z2.take len2 = Z2 at *
  generalize z3.take len3 = Z3 at *
  have hZ1 : Z1.length = len1 := p1.1.llen
  have hZ2 : Z2.length = len2 := p2.1.llen
  have HP := Lib.hid (And.intro p0 (And.intro p1 (And.intro p2 p3)))
  have HE := Lib.hid hE
  clear p0 p1 p2 p3 hE
  go_enter Tryd.func4, Tryd.ntmps4
  go_wp2_with fail
  refine (macfirst_walk w).mono ?_
  rintro e w1 ⟨rfl, hk1⟩
  go_wp2_with fail
  refine (number_walk a4 300 _ hn.1 hn.2 (by omega) (by omega)).mono ?_
  rintro e w2 ⟨rfl, rfl⟩
  obtain ⟨n, hnn, hn2⟩ := modNat a4 300 (by omega)
  rw [hnn]
  clear hnn hn
  have hw1 : IntKind.i64.wrap ((n : Int) - 2) = (n : Int) - 2 := by rw [IntKind.wrap_i64]; omega
  by_cases hs : n < 2
  · have HD := Lib.hid (@derive_range w1 p (HE.out.keep hk1) a1 a0 a3 len1 cap1 len0 cap0 len3 cap3 ((n : Int) - 2) (.inl (by omega)))
    have HD2 := Lib.hid (fun w => @refDerive_range w a1 a0 a3 len1 cap1 len0 cap0 len3 cap3 ((n : Int) - 2) (.inl (by omega)))
    go_wp2_with fail
    refine HD.out.mono ?_
    rintro e w3 ⟨rfl, hk3⟩
    go_wp2_with fail
    refine (HD2.out w3).mono ?_
    rintro e w4 ⟨rfl, rfl⟩
    have hKT := hk1.trans hk3
    have hX := row_none w3
    have hY := row_none w3
    generalize w3 = wT at *
    clear hk1 hk3 HD HD2 hw1
    -- x and y: hX : Row .u8 wT @AX@ @NX@ L, hY : Row .u8 wT @AY@ @NX@ L; e is IsErr 102 (hIE), want is 102; hKT : Keeps Nil w wT
    have HXY := Lib.hid (fun w' (hk : Keeps Nil wT w') ca cb => sameBytes_walk (ca := ca) (cb := cb) (hX.keep hk) (hY.keep hk))
    clear hX hY
    have HDR := Lib.hid (fun w' (hk : Keeps Nil w w') => @derive_range w' p (HE.out.keep hk) a1 a0 a3 len1 cap1 len0 cap0 len3 cap3 8161 (.inr (by decide)))
    go_wp2_with fail
    refine (HDR.out _ hKT).mono ?_
    rintro e w20 ⟨rfl, hk20⟩
    have hK20 := hKT.trans hk20
    have hq := (Keeps.refl Nil w20).alloc (.cells [Value.slice a1 len1 cap1, Value.slice none 0 0, Value.slice a2 len2 cap2].toArray 27)
    have hM := ManyB.three (c2 := 0) (Blk.new w20 [Value.slice a1 len1 cap1, Value.slice none 0 0, Value.slice a2 len2 cap2] 27) ((HP.out.2.1.keep hK20).keep hq) (PieceOk.none _) ((HP.out.2.2.1.keep hK20).keep hq)
    have HM := Lib.hid (macSum_walk (n := len0) (cap := cap0) (cl := 3) ((HP.out.1.keep hK20).keep hq).1 HP.out.1.2 hM (by omega) (by simp; omega))
    rw [show [Z1, [], Z2].flatten = Z1 ++ Z2 by simp] at HM
    clear hM HDR
    go_wp2_with fail
    refine HM.out.mono ?_
    rintro e w21 ⟨rfl, hk21⟩
    have hk22 := hq.trans hk21
    have hK21 := hK20.trans hk22
    have HB := Lib.hid (refBytes_walk (len := len1) (cap := cap1) (HP.out.2.1.keep hK21).1 (by omega))
    clear HM hq hk21
    go_wp2_with fail
    refine HB.out.mono ?_
    rintro e w23 ⟨a23, c23, rfl, ho23, hk23, hf23⟩
    rw [hZ1] at ho23 ⊢
    have hK23 := hK21.trans hk23
    have hsrc : Src w23 a2 len2 cap2 1 (byteV Z2) := ((HP.out.2.2.1.keep hK23).1).src HP.out.2.2.1.2
    clear HB
    unfold keyV
    go_wp2_with (at_builtin; refine wpl_appendMW rfl _ _ 27 rfl 5 Tryd.underlying27 Tryd.info8s a23 c23 len1 Z1 rfl ho23.mid a2 len2 cap2 Z2 rfl hsrc (by omega) ?_)
    intro a24 c24 w24 ho24 hk24 hf24
    have hk234 : Keeps Nil w21 w24 := hk23.step hk24 (fun i hi => .inr (hf23 i hi.2))
    have hK24 := hK21.trans hk234
    have hwf : AreB (Z1 ++ Z2) := areB_append HP.out.2.1.1.bytes HP.out.2.2.1.1.bytes
    have HRM := Lib.hid (refMac_walk (n := len0) (cap := cap0) (m := len1 + len2) (cm := c24) (HP.out.1.keep hK24).1 (ho24.row (areB_wf hwf)) (fun h => by have h1 := ho24.nil h; have h2 := ho24.le; exact ⟨h1, by omega⟩) (by omega) (by omega))
    have hqE := fun w => Tryd.eqlHsame (macL_len Z0 (Z1 ++ Z2)) (macL_bytes Z0 (Z1 ++ Z2)) w
    have hkT24 := hk20.trans (hk22.trans hk234)
    unfold keyV at HRM
    generalize byteV (macL Z0 (Z1 ++ Z2)) = VM at *
    have hgE := fun (x y : Operand) (w : World) => Tryd.guardH2 .eql x y VM.toArray VM.toArray w
    clear ho23 hk23 hf23 hsrc ho24 hk24 hf24 hk234 hK20 hK21 hK23 hk22 hk20
    go_wp2_with fail
    refine HRM.out.mono ?_
    rintro e w25 ⟨rfl, hk25⟩
    have hkT25 := hkT24.trans hk25
    have hK25 := hK24.trans hk25
    clear hK24 hkT24 hk25 HRM
    go_wp2_with (refine wpl_bin rfl _ _ _ _ _ rfl _ _ rfl rfl _ hqE (hgE _ _) ?_)
    refine (HXY.out _ hkT25 _ _).mono ?_
    rintro e w26 ⟨rfl, hd26⟩
    rw [sameL_self]
    have hK26 := hK25.trans (hd26.keeps Nil)
    have HI1 := Lib.hid (is_walk (HE.out.keep hK26) (.inr (.inl ⟨1, by decide, rfl, rfl, rfl, rfl⟩)) 102)
    clear hqE hgE HXY hkT25 hK25 hd26
    go_wp2_with fail
    refine HI1.out.mono ?_
    rintro e w27 ⟨rfl, hk27⟩
    rw [show isV (101 + ((1 : Nat) : Int)) false 0 102 = true from rfl]
    have hK27 := hK26.trans hk27
    have HQ := Lib.hid (equal_walk (ca := cap1) (cb := cap2) (HP.out.2.1.keep hK27).1 (HP.out.2.2.1.keep hK27).1)
    clear HI1 hK26 hk27
    go_wp2_with fail
    refine HQ.out.mono ?_
    rintro e w28 ⟨rfl, hd28⟩
    have hK28 := hK27.trans (hd28.keeps Nil)
    have HQ := Lib.hid (sameBytes_walk (ca := cap1) (cb := cap2) (HP.out.2.1.keep hK28).1 (HP.out.2.2.1.keep hK28).1)
    clear hd28 hK27
    generalize hsb : sameL Z1 Z2 = sb at *
    clear hsb
    have hbb : (sb == sb) = true := by simp
    go_wp2_with fail
    refine HQ.out.mono ?_
    rintro e w29 ⟨rfl, hd29⟩
    have hK29 := hK28.trans (hd29.keeps Nil)
    have HB := Lib.hid (refBytes_walk (len := len1) (cap := cap1) (HP.out.2.1.keep hK29).1 (by omega))
    clear HQ hd29 hK28
    go_wp2_with fail
    refine HB.out.mono ?_
    rintro e w30 ⟨a30, c30, rfl, ho30, hk30, hf30⟩
    rw [hZ1] at ho30 ⊢
    have hK30 := hK29.trans hk30
    have HQ := Lib.hid (equal_walk (ca := cap1) (cb := c30) (HP.out.2.1.keep hK30).1 (ho30.row (areB_wf HP.out.2.1.1.bytes)))
    clear HB ho30 hf30 hK29 hk30
    go_wp2_with fail
    refine HQ.out.mono ?_
    rintro e w31 ⟨rfl, hd31⟩
    rw [sameL_self]
    have hK31 := hK30.trans (hd31.keeps Nil)
    have HI2 := Lib.hid (is_walk (HE.out.keep hK31) (.inr (.inl ⟨1, by decide, rfl, rfl, rfl, rfl⟩)) 102)
    clear HQ hd31 hK30
    go_wp2_with fail
    refine HI2.out.mono ?_
    rintro e w32 ⟨rfl, hk32⟩
    rw [show isV (101 + ((1 : Nat) : Int)) false 0 102 = true from rfl]
    go_wp2_with fail
    go_ret
    exact ⟨by first | rfl | simp, hK31.trans hk32⟩
  · obtain ⟨m, rfl⟩ : ∃ m, n = m + 2 := ⟨n - 2, by omega⟩
    have hw2 : (((m + 2 : Nat) : Int)) - 2 = (m : Int) := by omega
    have HD := Lib.hid (derive_walk (HP.out.2.1.keep hk1) (HP.out.1.keep hk1) (HP.out.2.2.2.keep hk1) (by omega) (by omega) (by omega) (n := m) (by omega))
    rw [hw2] at hw1
    go_wp2_with fail
    refine HD.out.mono ?_
    rintro e w3 ⟨a5, c5, rfl, ho5, hk3, hf5⟩
    rw [deriveL_len] at ho5 ⊢
    have hk13 := hk1.trans hk3
    have HD2 := Lib.hid (refDerive_walk (HP.out.2.1.keep hk13) (HP.out.1.keep hk13) (HP.out.2.2.2.keep hk13) (by omega) (by omega) (by omega) (n := m) (by omega))
    clear HD
    go_wp2_with fail
    refine HD2.out.mono ?_
    rintro e w4 ⟨a6, c6, rfl, hY, hk4, _⟩
    have hKT := hk13.trans hk4
    have hX := (ho5.keep0 hk4).row (areB_wf (deriveL_bytes _ _ _ _))
    generalize w4 = wT at *
    clear hk1 hk3 hk13 hk4 ho5 hf5 HD2 hw1 hw2
    -- x and y: hX : Row .u8 wT @AX@ @NX@ L, hY : Row .u8 wT @AY@ @NX@ L; e is IsErr 0 (hIE), want is 0; hKT : Keeps Nil w wT
    have HXY := Lib.hid (fun w' (hk : Keeps Nil wT w') ca cb => sameBytes_walk (ca := ca) (cb := cb) (hX.keep hk) (hY.keep hk))
    clear hX hY
    have HDR := Lib.hid (fun w' (hk : Keeps Nil w w') => @derive_range w' p (HE.out.keep hk) a1 a0 a3 len1 cap1 len0 cap0 len3 cap3 8161 (.inr (by decide)))
    go_wp2_with fail
    refine (HDR.out _ hKT).mono ?_
    rintro e w20 ⟨rfl, hk20⟩
    have hK20 := hKT.trans hk20
    have hq := (Keeps.refl Nil w20).alloc (.cells [Value.slice a1 len1 cap1, Value.slice none 0 0, Value.slice a2 len2 cap2].toArray 27)
    have hM := ManyB.three (c2 := 0) (Blk.new w20 [Value.slice a1 len1 cap1, Value.slice none 0 0, Value.slice a2 len2 cap2] 27) ((HP.out.2.1.keep hK20).keep hq) (PieceOk.none _) ((HP.out.2.2.1.keep hK20).keep hq)
    have HM := Lib.hid (macSum_walk (n := len0) (cap := cap0) (cl := 3) ((HP.out.1.keep hK20).keep hq).1 HP.out.1.2 hM (by omega) (by simp; omega))
    rw [show [Z1, [], Z2].flatten = Z1 ++ Z2 by simp] at HM
    clear hM HDR
    go_wp2_with fail
    refine HM.out.mono ?_
    rintro e w21 ⟨rfl, hk21⟩
    have hk22 := hq.trans hk21
    have hK21 := hK20.trans hk22
    have HB := Lib.hid (refBytes_walk (len := len1) (cap := cap1) (HP.out.2.1.keep hK21).1 (by omega))
    clear HM hq hk21
    go_wp2_with fail
    refine HB.out.mono ?_
    rintro e w23 ⟨a23, c23, rfl, ho23, hk23, hf23⟩
    rw [hZ1] at ho23 ⊢
    have hK23 := hK21.trans hk23
    have hsrc : Src w23 a2 len2 cap2 1 (byteV Z2) := ((HP.out.2.2.1.keep hK23).1).src HP.out.2.2.1.2
    clear HB
    unfold keyV
    go_wp2_with (at_builtin; refine wpl_appendMW rfl _ _ 27 rfl 5 Tryd.underlying27 Tryd.info8s a23 c23 len1 Z1 rfl ho23.mid a2 len2 cap2 Z2 rfl hsrc (by omega) ?_)
    intro a24 c24 w24 ho24 hk24 hf24
    have hk234 : Keeps Nil w21 w24 := hk23.step hk24 (fun i hi => .inr (hf23 i hi.2))
    have hK24 := hK21.trans hk234
    have hwf : AreB (Z1 ++ Z2) := areB_append HP.out.2.1.1.bytes HP.out.2.2.1.1.bytes
    have HRM := Lib.hid (refMac_walk (n := len0) (cap := cap0) (m := len1 + len2) (cm := c24) (HP.out.1.keep hK24).1 (ho24.row (areB_wf hwf)) (fun h => by have h1 := ho24.nil h; have h2 := ho24.le; exact ⟨h1, by omega⟩) (by omega) (by omega))
    have hqE := fun w => Tryd.eqlHsame (macL_len Z0 (Z1 ++ Z2)) (macL_bytes Z0 (Z1 ++ Z2)) w
    have hkT24 := hk20.trans (hk22.trans hk234)
    unfold keyV at HRM
    generalize byteV (macL Z0 (Z1 ++ Z2)) = VM at *
    have hgE := fun (x y : Operand) (w : World) => Tryd.guardH2 .eql x y VM.toArray VM.toArray w
    clear ho23 hk23 hf23 hsrc ho24 hk24 hf24 hk234 hK20 hK21 hK23 hk22 hk20
    go_wp2_with fail
    refine HRM.out.mono ?_
    rintro e w25 ⟨rfl, hk25⟩
    have hkT25 := hkT24.trans hk25
    have hK25 := hK24.trans hk25
    clear hK24 hkT24 hk25 HRM
    go_wp2_with (refine wpl_bin rfl _ _ _ _ _ rfl _ _ rfl rfl _ hqE (hgE _ _) ?_)
    refine (HXY.out _ hkT25 _ _).mono ?_
    rintro e w26 ⟨rfl, hd26⟩
    rw [sameL_self]
    have hK26 := hK25.trans (hd26.keeps Nil)
    have HI1 := Lib.hid (is_walk (HE.out.keep hK26) (.inl ⟨rfl, rfl, rfl, rfl⟩) 0)
    clear hqE hgE HXY hkT25 hK25 hd26
    go_wp2_with fail
    refine HI1.out.mono ?_
    rintro e w27 ⟨rfl, hk27⟩
    rw [show isV 0 false 0 0 = true from rfl]
    have hK27 := hK26.trans hk27
    have HQ := Lib.hid (equal_walk (ca := cap1) (cb := cap2) (HP.out.2.1.keep hK27).1 (HP.out.2.2.1.keep hK27).1)
    clear HI1 hK26 hk27
    go_wp2_with fail
    refine HQ.out.mono ?_
    rintro e w28 ⟨rfl, hd28⟩
    have hK28 := hK27.trans (hd28.keeps Nil)
    have HQ := Lib.hid (sameBytes_walk (ca := cap1) (cb := cap2) (HP.out.2.1.keep hK28).1 (HP.out.2.2.1.keep hK28).1)
    clear hd28 hK27
    generalize hsb : sameL Z1 Z2 = sb at *
    clear hsb
    have hbb : (sb == sb) = true := by simp
    go_wp2_with fail
    refine HQ.out.mono ?_
    rintro e w29 ⟨rfl, hd29⟩
    have hK29 := hK28.trans (hd29.keeps Nil)
    have HB := Lib.hid (refBytes_walk (len := len1) (cap := cap1) (HP.out.2.1.keep hK29).1 (by omega))
    clear HQ hd29 hK28
    go_wp2_with fail
    refine HB.out.mono ?_
    rintro e w30 ⟨a30, c30, rfl, ho30, hk30, hf30⟩
    rw [hZ1] at ho30 ⊢
    have hK30 := hK29.trans hk30
    have HQ := Lib.hid (equal_walk (ca := cap1) (cb := c30) (HP.out.2.1.keep hK30).1 (ho30.row (areB_wf HP.out.2.1.1.bytes)))
    clear HB ho30 hf30 hK29 hk30
    go_wp2_with fail
    refine HQ.out.mono ?_
    rintro e w31 ⟨rfl, hd31⟩
    rw [sameL_self]
    have hK31 := hK30.trans (hd31.keeps Nil)
    have HI2 := Lib.hid (is_walk (HE.out.keep hK31) (.inr (.inl ⟨1, by decide, rfl, rfl, rfl, rfl⟩)) 102)
    clear HQ hd31 hK30
    go_wp2_with fail
    refine HI2.out.mono ?_
    rintro e w32 ⟨rfl, hk32⟩
    rw [show isV (101 + ((1 : Nat) : Int)) false 0 102 = true from rfl]
    go_wp2_with fail
    go_ret
    exact ⟨by first | rfl | simp, hK31.trans hk32⟩
end Go.Proofs.YtnkahfpinkgimaaDoor
