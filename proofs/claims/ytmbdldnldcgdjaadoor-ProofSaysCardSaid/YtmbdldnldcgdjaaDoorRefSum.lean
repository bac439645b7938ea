/-
  courierref1.Sum: the document's digest is the program's.
-/
import Derived.Test.YtmbdldnldcgdjaaDoorRefRound
import Derived.Test.YtmbdldnldcgdjaaDoorShaAll
import Derived.Test.YtmbdldnldcgdjaaDoorStill
namespace Go.Proofs.YtmbdldnldcgdjaaDoor
set_option linter.unusedSimpArgs false
set_option linter.unusedVariables false
open Go.RowKit

def lenOf : Value → Nat
  | .slice _ n _ => n
  | _ => 0
/-- A list of bytes of the program's own, new since a world. -/
def MGo (w : World) (P : List Int) (v : Value) (wr : World) : Prop := ∃ a cap, v = .slice a P.length cap ∧ MidB wr 5 a cap P.length P ∧ Keeps Nil w wr ∧ (∀ k, midOf a cap k → w.heap.size ≤ k) ∧ (∀ x ∈ P, (Lit.int .u8 x).wf = true)
theorem MGo.push {w wr w3 : World} {P : List Int} {a a' : Option Addr} {cap cap' : Nat} {x : Int} {o : Obj} (hk : Keeps Nil w wr) (hfr : ∀ k, midOf a cap k → w.heap.size ≤ k) (hwf : ∀ x ∈ P, (Lit.int .u8 x).wf = true) (hx : 0 ≤ x ∧ x < 256)
    (hm : MidB w3 5 a' cap' (P.length + 1) (P ++ [x])) (hk3 : Keeps (midOf a cap) (wr.alloc o) w3) (hf : ∀ k, midOf a' cap' k → midOf a cap k ∨ wr.heap.size + 1 ≤ k) : MGo w (P ++ [x]) (.slice a' (P.length + 1) cap') w3 :=
  ⟨a', cap', by simp, by simpa using hm, (hk.trans ((Keeps.refl _ _).alloc o)).step hk3 (fun i hi => .inr (hfr i hi)), fun k hk' => by
    rcases hf k hk' with h' | h'
    · exact hfr k h'
    · have := hk.size; omega, fun y hy => (List.mem_append.1 hy).elim (hwf y) (fun hy => by rw [List.mem_singleton.1 hy]; exact wf_u8 hx.1 hx.2)⟩

set_option maxRecDepth 20000 in
set_option maxHeartbeats 6400000 in
theorem refSum_walk {w : World} {a : Option Addr} {n cap : Nat} {l : List Int} (hrow : Row .u8 w a n l) (hl : n ≤ 900000) :
    Calls Tryd.prog 22 #[.slice a n cap] w fun e w' => e = .returned (.agg (byteV (digest l)).toArray) ∧ Keeps Nil w w' := by
  have hzv := Tryd.zeroH32
  have hbR := Blk.new w (byteV z32) 26
  have hkA := (Keeps.refl Nil w).alloc (.cells (byteV z32).toArray 26)
  have hszA : (w.alloc (.cells (byteV z32).toArray 26)).heap.size = w.heap.size + 1 := Array.size_push _
  have hll := hrow.llen
  have hrA := hrow.keep hkA
  have hzz : (byteV z32).length = 32 := by rw [byteV_len, z32_len]
  have HZ := Lib.hid (And.intro hzz (And.intro hrow.wf hll))
  have HD := Lib.hid (show digest l = (List.range 32).map (wordB (blocks shaH0 (padded l) ((padded l).length / 64))) from rfl)
  clear hrow
  generalize hZZ : byteV z32 = Z at *
  have HZE := Lib.hid hZZ
  clear hZZ hzz
  go_enter Tryd.func22, Tryd.ntmps22
  go_wp2_with fail
  generalize w.alloc (.cells Z.toArray 26) = wA at *
  refine (refBytes_walk hrA (by omega)).mono ?_
  rintro e w1 ⟨a1, c1, rfl, ho1, hk1, hf1⟩
  rw [hll] at ho1 ⊢
  have hm1 := ho1.mid
  have hf1' : ∀ k, midOf a1 c1 k → wA.heap.size ≤ k := fun k hk => hf1 k hk.2
  go_wp2_with (first | (refine wpList_bs rfl 65 5 1 _ rfl [.int .u8 (128)] Tryd.underlying65 Tryd.bs8 rfl (by decide) (by decide) (by first | rfl | simp [Act.eval]) (by simp [Value.cells]) ?_) | (at_builtin; go_must (refine wpl_appendM rfl _ _ 65 rfl 5 Tryd.underlying65 Tryd.info8s a1 c1 n (l) rfl (hm1.keep0 ((Keeps.refl _ _).alloc _)) _ 1 1 [128] rfl (Src.one (Blk.new _ _ _) rfl) (by omega) ?_)))
  intro a2 cap2 w2 hm2 hk2 hf2
  try intro _
  have hG : MGo wA (l ++ [128]) (.slice a2 (n + 1) cap2) w2 := by
    have := MGo.push (P := l) (x := 128) hk1 hf1' HZ.out.2.1 (by omega) (by rw [hll]; exact hm2) hk2 hf2
    rwa [hll] at this
  rw [show l ++ [128] = padTo l 0 by simp [padTo]] at hG
  have HG := Lib.hid hG
  have hN : padN l.length < 64 ∧ (l.length + 1 + padN l.length) % 64 = 56 := by unfold padN; omega
  rw [hll] at hN
  clear hG ho1 hm1 hk1 hf1 hf1' hm2 hk2 hf2 hrA
  generalize hpn : padN n = N at *
  have HPN := Lib.hid hpn
  clear hpn
  go_wp2_with fail
  go_loopw [3] (fun v wr => ∃ j, j ≤ N ∧ Hid (MGo wA (padTo l j) v wr)) (fun v _ => (120 - lenOf v % 64) % 64)
  case atStart => exact ⟨0, by omega, HG.out⟩
  case round =>
    obtain ⟨j, hj, hGo⟩ := hrel
    clear HG
    have hGo2 := hGo.out
    obtain ⟨a3, c3, rfl, hm3, hk3, hf3, hw3⟩ := hGo2
    have hpl : (padTo l j).length = n + 1 + j := by rw [padTo_len, hll]
    have HPL := Lib.hid hpl
    rw [hpl] at hm3
    rw [hpl]
    by_cases hjn : j = N
    · have e1 : (((n + 1 + j : Nat) : Int) % 64 != 56) = false := by
        have := hN.2
        simp only [bne_eq_false_iff_eq]
        omega
      subst hjn
      have hGo3 : MGo wA (padTo l j ++ lenB l.length 0) (.slice a3 (n + 1 + j) c3) wr := ⟨a3, c3, by simp [lenB, hpl], by simpa [lenB, hpl] using hm3, hk3, hf3, by simpa [lenB] using hw3⟩
      have HGO := Lib.hid hGo3
      clear hGo3 hGo hm3 hk3 hf3 hw3
      generalize hNN : n + 1 + j = NN at *
      have hL1 : (n : Int) ≤ 900000 := by omega
      have hL0 : (0 : Int) ≤ n := by omega
      have hwb : IntKind.u64.wrap (n : Int) = n := by rw [IntKind.wrap_u64]; omega
      have hwc : IntKind.u64.wrap ((n : Int) * 8) = (n : Int) * 8 := by rw [IntKind.wrap_u64]; omega
      have hNNl : NN ≤ 900070 := by omega
      have HNN := Lib.hid hNN
      have HLN := Lib.hid hll
      clear hpl hNN hll
      go_wp2_with fail
      clear hwb hwc
      go_loopw [3, 5] (fun v u wq => ∃ k : Nat, k ≤ 8 ∧ u = .int .i64 (7 - (k : Int)) ∧ Hid (MGo wA (padTo l j ++ lenB l.length k) v wq)) (fun _ u _ => (intOf u + 1).toNat)
      case atStart => exact ⟨0, by omega, rfl, HGO.out⟩
      case round =>
        obtain ⟨k, hk8, rfl, hGi⟩ := hrel
        clear HGO
        obtain ⟨a5, c5, rfl, hm5, hk5, hf5, hw5⟩ := hGi.out
        have hpl2 : (padTo l j ++ lenB l.length k).length = NN + k := by rw [List.length_append, HPL.out, lenB_len]
        have HPL2 := Lib.hid hpl2
        rw [hpl2] at hm5
        rw [hpl2]
        by_cases hk : k < 8
        · obtain ⟨T, hT⟩ : ∃ T : Int, T = 7 - (k : Int) := ⟨_, rfl⟩
          rw [← hT]
          have hT0 : 0 ≤ T := by omega
          have hT1 : T < 8 := by omega
          have hT2 : -1 ≤ T - 1 := by omega
          have hw1 : IntKind.i64.wrap (8 * T) = 8 * T := by rw [IntKind.wrap_i64]; omega
          have hw2 : IntKind.u64.wrap (8 * T) = 8 * T := by rw [IntKind.wrap_u64]; omega
          have hXe : IntKind.u8.wrap ((n : Int) * 8 / 2 ^ (8 * T).toNat) = (n : Int) * 8 / 2 ^ (56 - 8 * k) % 256 := by rw [IntKind.wrap_u8, show (8 * T).toNat = 56 - 8 * k by omega]
          generalize hX : (n : Int) * 8 / 2 ^ (56 - 8 * k) % 256 = X at *
          have hX0 : 0 ≤ X ∧ X < 256 := by rw [← hX]; exact ⟨Int.emod_nonneg _ (by omega), Int.emod_lt_of_pos _ (by omega)⟩
          have HLB := Lib.hid (show lenB l.length k ++ [X] = lenB l.length (k + 1) by rw [← hX, ← HLN.out]; exact lenB_succ l.length k)
          have HTT := Lib.hid hT
          have HX0 := Lib.hid hX0
          have hn9 : NN + k ≤ 1000000 := by omega
          clear hX hGi hpl2 hT hX0
          generalize hNK : NN + k = NK at *
          generalize hPP : padTo l j ++ lenB (l.length : Int) k = PP at *
          go_wp2_with (first | (refine wpList_bs rfl 65 5 1 _ rfl [.int .u8 (X)] Tryd.underlying65 Tryd.bs8 rfl (by decide) (by decide) (by first | rfl | simp [Act.eval]) (by simp [Value.cells]) ?_) | (at_builtin; go_must (refine wpl_appendM rfl _ _ 65 rfl 5 Tryd.underlying65 Tryd.info8s a5 c5 NK (PP) rfl (hm5.keep0 ((Keeps.refl _ _).alloc _)) _ 1 1 [X] rfl (Src.one (Blk.new _ _ _) rfl) (by omega) ?_)))
          intro a6 cap6 w6 hm6 hk6 hf6
          try intro _
          have hG6 : MGo wA (padTo l j ++ lenB l.length (k + 1)) (.slice a6 (NK + 1) cap6) w6 := by
            have := MGo.push (P := PP) (x := X) hk5 hf5 hw5 HX0.out (by rw [HPL2.out]; exact hm6) hk6 hf6
            rw [← hPP, List.append_assoc, HLB.out, hPP, HPL2.out] at this
            exact this
          clear hm5 hk5 hf5 hw5 hm6 hk6 hf6
          go_wp2_with fail
          have hTT := HTT.out
          refine ⟨⟨k + 1, by omega, by first | (rw [hTT]; go_num) | (congr 1; omega), hG6⟩, ?_⟩
          simp only [intOf]
          omega
        · obtain rfl : k = 8 := by omega
          have hP : padTo l j ++ lenB l.length 8 = padded l := by unfold padded; rw [HLN.out, HPN.out]
          rw [hP] at hm5 hw5 hpl2
          have hrw := hm5.row hw5
          have hle5 := hm5.le
          obtain ⟨b5, o5, rfl, hb5, hc5⟩ := hrw.cell (by omega)
          have hdl : (padded l).length = NN + 8 := hpl2
          have hh0 := blocks_len (padded l)
          have hhW := blocks_isW (padded l)
          have HB8 := Lib.hid Tryd.built8h
          have h8l : (wordV shaH0).length = 8 := rfl
          have h8o := wordV_one shaH0
          have hzv8 := Tryd.zeroW8
          have hz8l : (wordV z8).length = 8 := rfl
          have hb8 := Blk.new wr (wordV z8) 69
          have hka := (Keeps.refl Nil wr).alloc (.cells (wordV z8).toArray 69)
          have hlt5 := hm5.lt
          have hm5a := hm5.keep0 hka
          have hbRa := (hbR.keep0 hk5).keep0 hka
          have hltR := hbR.lt
          have hlt8 := hk5.size
          have hKa := hk5.trans hka
          have HWF := Lib.hid hw5
          have hI8 : (Tryd.prog.info? 69).map (·.size) = some (wordV shaH0).length := by rw [h8l]; exact Tryd.infoW8
          clear hGi hpl2 hrw hm5 hw5 hc5 hP hbR hk5 hk HPL HPL2 HPN e1
          generalize padded l = PD at *
          generalize shaH0 = S0 at *
          generalize wordV z8 = Z8 at *
          generalize hND : NN + 8 = ND at *
          have HND := Lib.hid hND
          have hdm : ND % 64 = 0 := by omega
          have hdn : ND ≤ 900080 := by omega
          clear hND
          have HBL := Lib.hid (And.intro hh0 hhW)
          have HDL := Lib.hid hdl
          clear hh0 hhW hdl
          go_wp2_with (first | (refine wpl_build rfl 69 _ rfl (wordV S0) _ HB8.out (by simp [Act.eval, Act.put]) ?_) | (refine wpl_store rfl 69 _ _ rfl wr.heap.size rfl (wordV S0) rfl hb8 (by rw [h8l, hz8l]) hI8 h8o ?_))
          intro w8 hb8b hk8b _
          have hm8 := hm5a.keep hk8b (fun k hk e => by have := hlt5 k hk; have e2 : k = wr.heap.size := e; omega)
          have hbR8 := hbRa.keep hk8b (fun e => by have e2 : w.heap.size = wr.heap.size := e; omega)
          have hK8 : Keeps Nil wA w8 := hKa.step hk8b (fun i hi => .inr (by rw [show i = wr.heap.size from hi]; exact hlt8))
          have hf8 : ∀ k, midOf (some ⟨b5, o5, none⟩) c5 k → k ≠ wr.heap.size := fun k hk e => by have := hlt5 k hk; omega
          have hne8 : w.heap.size ≠ wr.heap.size := by omega
          have hlA8 : wA.heap.size ≤ wr.heap.size := hlt8
          clear hb8 hka hlt5 hm5a hbRa hKa hk8b hlt8 hI8 h8o hz8l hzv8 h8l
          generalize wr.heap.size = gh at *
          have HB0 : Hid (Blk w8 gh (wordV (blocks S0 PD 0)) 69) := Lib.hid hb8b
          clear hb8b
          go_wp2_with fail
          go_loopw [7] (fun v wq => ∃ q : Nat, 64 * q ≤ ND ∧ v = .int .i64 ((64 * q : Nat) : Int) ∧ Hid (Blk wq gh (wordV (blocks S0 PD q)) 69) ∧ Hid (Keeps (One gh) w8 wq)) (fun v _ => ND - (intOf v).toNat)
          case atStart => exact ⟨0, by omega, rfl, HB0.out, Lib.hid (Keeps.refl _ _)⟩
          case round =>
            obtain ⟨q, hq, rfl, hBq, hkq⟩ := hrel
            clear HB0
            have hsucc := blocks_succ S0 PD q
            have hl8 := HBL.out.1 q
            have hW8 := HBL.out.2 q
            obtain ⟨I, hI⟩ : ∃ I : Nat, I = 64 * q := ⟨_, rfl⟩
            rw [← hI] at hq ⊢
            by_cases hqq : I < ND
            · have hi64 : I + 64 ≤ ND := by omega
              have hm9 := hm8.keep hkq.out (fun k hk e => hf8 k hk e)
              have hcut := (hm9.tail I (by omega) (by omega)).head (fun x hx => HWF.out x (List.mem_of_mem_drop hx)) 64 (by omega)
              rw [Addr.add_lit] at hcut
              rw [← hI] at hsucc
              have HQ := Lib.hid (And.intro hI hsucc)
              clear hI hsucc
              generalize blocks S0 PD q = S at *
              have hBq2 := hBq.out
              have hB1 := hBq2.drew
              have hcut1 := hcut.keep ((Keeps.refl _ wr).drew)
              have hrnd := round_walk hcut1 (cap := c5 - I) (by omega) hl8 hW8
              have hlS : (wordV S).length = 8 := by rw [wordV_len, hl8]
              have hIS : (Tryd.prog.info? 69).map (·.size) = some (wordV S).length := by rw [hlS]; exact Tryd.infoW8
              have hrg : wr.rangeAt gh 0 (wordV S) := hBq2.range0
              have hlR : (wordV (shaBlock S ((PD.drop I).take 64))).length = 8 := by rw [wordV_len, shaBlock_len]
              have hoR := wordV_one (shaBlock S ((PD.drop I).take 64))
              have hUW := Tryd.undW8
              have HRN := Lib.hid hrnd
              clear hrnd hcut hcut1 hl8 hW8
              generalize shaBlock S ((PD.drop I).take 64) = R at *
              generalize wordV S = SV at *
              have hi0 : (0 : Int) ≤ I := by omega
              have hi1 : (I : Int) < ND := by omega
              have hi2 : (I : Int) + 64 ≤ ND := by omega
              have hi3 : (I : Int) + 64 ≤ c5 := by omega
              have hi4 : (I : Int) ≤ (I : Int) + 64 := by omega
              have hi5 : ¬ I = c5 := by omega
              have hi6 : ¬ c5 = I := by omega
              have hi7 : IntKind.i64.wrap ((I : Int) + 64) = (I : Int) + 64 := by rw [IntKind.wrap_i64]; omega
              have hi8 : I ≤ c5 := by omega
              go_wp2_with fail
              refine wp_region_still_tail 6 (by kernel_rfl) (by kernel_rfl) ?_
              simp only [List.take_succ_cons, List.take_zero, List.drop_succ_cons, List.drop_zero]
              refine st_load (by kernel_rfl) 69 _ rfl gh 0 rfl SV hrg _ hUW rfl hIS ?_
              repeat still_step
              try refine wpStill_nil ?_
              change wpList _ _ _ _ _ wr.drew
              have hkd := hkq.out.drew
              clear hrg hBq2 hi0 hi3 hi4 hi7
              generalize wr.drew = wd at *
              go_wp2_with fail
              rw [show I + 64 - I = 64 by omega]
              refine HRN.out.mono ?_
              rintro e w9 ⟨rfl, hk9⟩
              have hB9 := hB1.keep0 hk9
              have hkd9 : Keeps (One gh) w8 w9 := hkd.step hk9 (fun i hi => False.elim hi)
              clear HRN hk9 hB1 hkd hBq
              go_wp2_with (first | (refine wpl_store rfl 69 _ _ rfl gh rfl (wordV R) rfl hB9 (by rw [hlR, hlS]) (by rw [hlR]; exact Tryd.infoW8) hoR ?_))
              intro w10 hb10 hk10 _
              have hkf : Keeps (One gh) w8 w10 := hkd9.trans hk10
              rw [← HQ.out.2] at hb10
              have hIq := HQ.out.1
              clear hB9 hkd9 hk10 HQ hlS hIS hlR hoR
              go_wp2_with fail
              go_roundw
              case rel => first | exact ⟨q + 1, by omega, by rw [show ((64 * (q + 1) : Nat) : Int) = (I : Int) + 64 by omega]; go_num, Lib.hid hb10, Lib.hid hkf⟩ | ((repeat apply Exists.intro); exact ⟨⟨q + 1, by omega, by rw [show ((64 * (q + 1) : Nat) : Int) = (I : Int) + 64 by omega]; go_num, Lib.hid hb10, Lib.hid hkf⟩, rfl⟩)
              case measure => simp [intOf]; omega
            · obtain rfl : I = ND := by omega
              have hqd : q = PD.length / 64 := by have := HDL.out; omega
              have hBf := hBq.out
              rw [hqd] at hBf hl8
              have hbRr := hbR8.keep hkq.out (fun e => hne8 e)
              have hKr : Keeps Nil wA wr := hK8.step hkq.out (fun i hi => .inr (by rw [show i = gh from hi]; exact hlA8))
              have hKO := (hkA.trans hKr).alloc (.cells Z.toArray 26)
              have hkO := (Keeps.refl Nil wr).alloc (.cells Z.toArray 26)
              have hbO := Blk.new wr Z 26
              have hbG := hBf.keep0 hkO
              have hbRO := hbRr.keep0 hkO
              have hltG := hBf.lt
              have hltR := hbRr.lt
              have HS8 := Lib.hid hl8
              have HDD := Lib.hid HD.out
              clear hsucc hl8 hW8 hBq hkq hm8 hf8 hBf hbRr hKr hkO hqd hI hqq HBL HD
              generalize blocks S0 PD (PD.length / 64) = S at *
              go_wp2_with fail
              generalize hgo : wr.heap.size = go at *
              generalize wr.alloc (.cells Z.toArray 26) = wo at *
              have hbO0 : Blk wo go (byteV (digUp S 0)) 26 := by
                have : byteV (digUp S 0) = Z := HZE.out
                rw [this]; exact hbO
              have HBO := Lib.hid hbO0
              clear hbO hbO0
              have hne : gh ≠ go := by omega
              go_loopw [9] (fun v wq => ∃ i : Nat, i ≤ 32 ∧ v = .int .i64 i ∧ Hid (Blk wq go (byteV (digUp S i)) 26) ∧ Hid (Keeps (One go) wo wq)) (fun v _ => 32 - (intOf v).toNat)
              case atStart => exact ⟨0, by omega, rfl, HBO.out, Keeps.refl _ _⟩
              case round =>
                obtain ⟨i, hi32, rfl, hBi, hki⟩ := hrel
                clear HBO
                by_cases hi2 : i < 32
                · obtain ⟨d, hd⟩ : ∃ d, d = i / 4 := ⟨_, rfl⟩
                  obtain ⟨r, hr⟩ : ∃ r, r = i % 4 := ⟨_, rfl⟩
                  have hq1 : (i : Int) / 4 = (d : Int) := by omega
                  have hq2 : (i : Int) % 4 = (r : Int) := by omega
                  have hd8 : d < 8 := by omega
                  have hr4 : r < 4 := by omega
                  have x8 := (hbG.keep hki.out (fun e => hne e)).cell d (v := .int .u32 (S.getD d 0)) (wordV_at _ _ (by have := HS8.out; omega))
                  have hBi2 := hBi.out
                  have y8 := hBi2.cell i (v := .int .u8 ((digUp S i).getD i 0)) (by have := digUp_len S i hi32; simp [byteV, List.getD, this, hi2])
                  have z8 := hBi2.frozen i
                  have hnew := hBi2.set i (.int .u8 (wordB S i))
                  rw [← byteV_setS, digUp_succ S i hi2] at hnew
                  have hwb : wordB S i = S.getD d 0 / 2 ^ (24 - 8 * r) % 256 := by unfold wordB; rw [hd, hr]
                  have hkn := hki.out.setOne i (.int .u8 (wordB S i))
                  generalize S.getD d 0 = xx at *
                  generalize (digUp S i).getD i 0 = yy at *
                  have HWE := Lib.hid hwb
                  have HNEW := Lib.hid (And.intro hnew hkn)
                  clear hnew hkn hwb hBi2 hd hr hbG
                  have hi0 : (0 : Int) ≤ i := by omega
                  have hi1 : (i : Int) < 32 := by omega
                  have hd0 : (0 : Int) ≤ d := by omega
                  have hd1 : (d : Int) < 8 := by omega
                  have hr0 : (0 : Int) ≤ r := by omega
                  have hr1 : (r : Int) < 4 := by omega
                  go_wp2_with fail
                  rw [HWE.out] at HNEW
                  exact ⟨⟨i + 1, by omega, by go_num, HNEW.out.1, HNEW.out.2⟩, by simp [intOf]; omega⟩
                · obtain rfl : i = 32 := by omega
                  have hBf := hBi.out
                  rw [digUp_full] at hBf
                  have hbf := hbRO.keep hki.out (fun e => by have : w.heap.size = go := e; omega)
                  have hKF : Keeps Nil w wr := hKO.step hki.out (fun i hi => .inr (by rw [show i = go from hi]; omega))
                  have hl32 : (byteV ((List.range 32).map (wordB S))).length = 32 := by simp [byteV]
                  have HL32 := Lib.hid hl32
                  rw [← HDD.out] at hBf HL32
                  have HDE := Lib.hid HDD.out
                  generalize hDD : digest l = D at *
                  have HDX := Lib.hid hDD
                  clear hDD
                  have hone := byteV_one D
                  clear hl32 hBi hki hbG hbRO hKO HDD
                  go_wp2_with (first | (refine wpl_load rfl 26 _ rfl go rfl hBf _ Tryd.undH rfl (by rw [HL32.out]; exact Tryd.infoH) ?_) | (refine wpl_store rfl 26 _ _ rfl w.heap.size rfl (byteV D) rfl hbf (by rw [HL32.out, HZ.out.1]) (by rw [HL32.out]; exact Tryd.infoH) hone ?_))
                  intro w20 hb20 hk20 hs20
                  go_wp2_with fail
                  refine ret_blk Tryd.results22 w.heap.size rfl hb20 _ Tryd.undH rfl (by rw [HL32.out]; exact Tryd.infoH) rfl ⟨by rw [HDX.out], hKF.step hk20 (fun i hi => .inr (by rw [show i = w.heap.size from hi]; exact Nat.le_refl _))⟩
    · have e1 : (((n + 1 + j : Nat) : Int) % 64 != 56) = true := by
        have := hN.2
        simp only [bne_iff_ne, ne_eq]
        omega
      have hn9 : n + 1 + j ≤ 1000000 := by omega
      clear hpl hGo
      generalize hNN : n + 1 + j = NN at *
      go_wp2_with (first | (refine wpList_bs rfl 65 5 1 _ rfl [.int .u8 (0)] Tryd.underlying65 Tryd.bs8 rfl (by decide) (by decide) (by first | rfl | simp [Act.eval]) (by simp [Value.cells]) ?_) | (at_builtin; go_must (refine wpl_appendM rfl _ _ 65 rfl 5 Tryd.underlying65 Tryd.info8s a3 c3 NN (padTo l j) rfl (hm3.keep0 ((Keeps.refl _ _).alloc _)) _ 1 1 [0] rfl (Src.one (Blk.new _ _ _) rfl) (by omega) ?_)))
      intro a4 cap4 w4 hm4 hk4 hf4
      try intro _
      have hG4 : MGo wA (padTo l (j + 1)) (.slice a4 (NN + 1) cap4) w4 := by
        have := MGo.push (P := padTo l j) (x := 0) hk3 hf3 hw3 (by omega) (by rw [HPL.out]; exact hm4) hk4 hf4
        rw [padTo_succ, HPL.out] at this
        exact this
      clear hm3 hk3 hf3 hw3 hm4 hk4 hf4
      go_wp2_with fail
      refine ⟨⟨j + 1, by omega, hG4⟩, ?_⟩
      have h3 : NN % 64 ≠ 56 := fun e => by
        have e2 : ((NN : Nat) : Int) % 64 = 56 := by omega
        simp [e2] at e1
      simp only [lenOf]
      omega
end Go.Proofs.YtmbdldnldcgdjaaDoor
