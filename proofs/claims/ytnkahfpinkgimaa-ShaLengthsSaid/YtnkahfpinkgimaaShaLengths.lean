/-
  The law ShaLengths.
-/
import Derived.Test.YtnkahfpinkgimaaShaFirst
import Derived.Test.YtnkahfpinkgimaaNumber
namespace Go.Proofs.Ytnkahfpinkgimaa
open Go.RowKit

/-- The bytes that are made, the first j. -/
def lenBs (by_ : Int) (m : Nat) : List Int := (List.range m).map fun (i : Nat) => (by_ + (i : Int)) % 256
def lenUp (by_ : Int) (m j : Nat) : List Int := lenBs by_ j ++ List.replicate (m - j) 0
theorem lenBs_len (b : Int) (m : Nat) : (lenBs b m).length = m := by simp [lenBs]
theorem lenUp_len (b : Int) (m j : Nat) (h : j ≤ m) : (lenUp b m j).length = m := by simp [lenUp, lenBs]; omega
theorem lenUp_succ (b : Int) (m j : Nat) (h : j < m) : (lenUp b m j).set j ((b + (j : Int)) % 256) = lenUp b m (j + 1) := by
  unfold lenUp lenBs
  rw [List.set_append_right _ _ (by simp), List.range_succ, List.map_append]
  simp only [List.length_map, List.length_range, Nat.sub_self, List.map_cons, List.map_nil]
  obtain ⟨k, hk⟩ : ∃ k, m - j = k + 1 := ⟨m - j - 1, by omega⟩
  rw [hk, List.replicate_succ, List.set_cons_zero, show m - (j + 1) = k by omega]
  simp
theorem lenUp_full (b : Int) (m : Nat) : lenUp b m m = lenBs b m := by simp [lenUp]
theorem lenBs_wf (b : Int) (m : Nat) : ∀ x ∈ lenBs b m, (Lit.int .u8 x).wf = true := fun x hx => by
  obtain ⟨i, _, rfl⟩ := List.mem_map.1 hx
  exact wf_u8 (Int.emod_nonneg _ (by omega)) (Int.emod_lt_of_pos _ (by omega))
theorem Try.infoSl : (Try.prog.info? 22).map (fun i => (i.zero.map (·.cells.size), i.size, i.bytes)) = some (some 1, 1, 24) := by kernel_rfl
theorem Try.bsSl : (Try.prog.info? 22).map (fun i => (i.size, i.zero.isSome)) = some (1, true) := by kernel_rfl
/-- Single bytes of a block, as slices. -/
def oneV (gb m i : Nat) : List Value := (List.range i).map fun k => .slice (some ⟨gb, k, none⟩) 1 (m - k)
theorem oneV_succ (gb m i : Nat) : oneV gb m i ++ [.slice (some ⟨gb, i, none⟩) 1 (m - i)] = oneV gb m (i + 1) := by simp [oneV, List.range_succ]
theorem oneV_len (gb m i : Nat) : (oneV gb m i).length = i := by simp [oneV]
theorem singles_flat (B : List Int) : (B.map fun x => [x]).flatten = B := by
  induction B with
  | nil => rfl
  | cons x B ih => simp only [List.map_cons, List.flatten_cons, ih]; rfl
/-- What holds while the bytes are written one by one. -/
def LenGo (w : World) (gb m g : Nat) (B : List Int) (i : Nat) (v : Value) (wr : World) : Prop :=
  ∃ a cap al capl, v = .slice al i capl ∧ IsHash wr g a cap (B.take i) ∧ Keeps Nil w wr ∧ (∀ k, midOf a cap k → w.heap.size ≤ k) ∧ Own wr 22 1 al capl i (oneV gb m i) ∧ (∀ k, blkOf al k → w.heap.size ≤ k ∧ k ≠ g ∧ ¬ midOf a cap k)

set_option maxRecDepth 20000 in
set_option maxHeartbeats 4000000 in
theorem shaLengths_walk (n by_ : Int) (w : World) (w0 : (Lit.int .i64 n).wf = true) (w1 : (Lit.int .u8 by_).wf = true) :
    Calls Try.prog 6 #[.int .i64 n, .int .u8 by_] w (TrueS w) := by
  have hn := i64_wf w0
  have hby := u8_wf w1
  clear w0 w1
  go_enter Try.func6, Try.ntmps6
  go_wp2_with fail
  refine (shafirst_walk w).mono ?_
  rintro e w1 ⟨rfl, hk1⟩
  go_wp2_with fail
  refine (number_walk n 200 w1 hn.1 hn.2 (by omega) (by omega)).mono ?_
  rintro e w2 ⟨rfl, rfl⟩
  obtain ⟨m, hm, hmod⟩ : ∃ m : Nat, m < 200 ∧ n % 200 = m := ⟨(n % 200).toNat, by omega, by omega⟩
  rw [hmod]
  clear hmod hn
  go_wp2_with (at_make; refine wpl_make rfl _ _ 22 rfl 5 (.int .u8 0) 1 Try.underlying22 Try.info8 rfl .i64 .i64 m m _ _ rfl rfl rfl rfl (by omega) (by omega) (by unfold maxLen; omega) ?_)
  intro w3 _ hb3 hk3
  have hb3' : Blk w3 w1.heap.size (byteV (lenUp by_ m 0)) 5 := by
    have : byteV (lenUp by_ m 0) = List.replicate m (.int .u8 0) := by simp [lenUp, lenBs, byteV]
    rw [this]; exact hb3
  have HB3 := Lib.hid hb3'
  have hk13 := hk1.trans hk3
  have hg1 := hk1.size
  clear hb3 hb3' hk3
  generalize w1.heap.size = gb at *
  go_wp2_with fail
  go_loopw [7] (fun v wr => ∃ j : Nat, j ≤ m ∧ v = .int .i64 j ∧ Hid (Blk wr gb (byteV (lenUp by_ m j)) 5) ∧ Hid (Keeps (One gb) w3 wr)) (fun v _ => m - (intOf v).toNat)
  case atStart => exact ⟨0, by omega, rfl, HB3.out, Keeps.refl _ _⟩
  case round =>
    obtain ⟨j, hj, rfl, hB, hkr⟩ := hrel
    clear HB3
    by_cases hjm : j < m
    · have hBo := hB.out
      have hc := hBo.cell j (v := .int .u8 ((lenUp by_ m j).getD j 0)) (by have := lenUp_len by_ m j hj; simp [byteV, List.getD, this, hjm])
      have hz := hBo.frozen j
      have hnew := hBo.set j (.int .u8 ((by_ + (j : Int)) % 256))
      rw [← byteV_setS, lenUp_succ by_ m j hjm] at hnew
      have hkn := hkr.out.setOne j (.int .u8 ((by_ + (j : Int)) % 256))
      have HNEW := Lib.hid (And.intro hnew hkn)
      generalize (lenUp by_ m j).getD j 0 = xx at *
      clear hBo hnew hkn
      have hj0 : (0 : Int) ≤ j := by omega
      have hj1 : (j : Int) < m := by omega
      have hj2 : (j : Int) < 200 := by omega
      go_wp2_with fail
      exact ⟨⟨j + 1, by omega, by go_num, HNEW.out.1, HNEW.out.2⟩, by simp [intOf]; omega⟩
    · obtain rfl : j = m := by omega
      have hBf := hB.out
      rw [lenUp_full] at hBf
      have hKB : Keeps Nil w wr := hk13.step hkr.out (fun i hi => .inr (by rw [show i = gb from hi]; exact hg1))
      have hBl := lenBs_len by_ j
      have hBw := lenBs_wf by_ j
      have hgl := hBf.lt
      generalize lenBs by_ j = B at *
      have hrow : Row .u8 wr (some ⟨gb, 0, none⟩) j B := ⟨hBl, by omega, fun _ => ⟨gb, 0, rfl, hgl, fun i hi => by rw [Nat.zero_add]; exact hBf.cell i (byteV_at B i (by omega) rfl)⟩, hBw⟩
      have HX := Lib.hid (And.intro hBl (And.intro hBw hrow))
      clear hB hkr hBf hBl hBw hrow hk13
      generalize wr = wB at *
      go_wp2_with fail
      refine (new_walk wB).mono ?_
      rintro e w5 ⟨g, rfl, hI5, hk5, hg5⟩
      have hG0 : LenGo wB gb j g B 0 (.slice none 0 0) w5 := ⟨none, 0, none, 0, rfl, by simpa using hI5, hk5, fun k hk => by have := hk.1; omega, Own.nil _ _ _, fun k hk => (blkOf_none k hk).elim⟩
      have HG := Lib.hid hG0
      clear hI5 hk5 hG0
      go_wp2_with fail
      go_loopw [9, 10] (fun v v10 wq => ∃ i : Nat, i ≤ j ∧ v10 = .int .i64 i ∧ Hid (LenGo wB gb j g B i v wq)) (fun _ v10 _ => j - (intOf v10).toNat)
      case atStart => exact ⟨0, by omega, rfl, HG.out⟩
      case round =>
        obtain ⟨i, hi, rfl, hGi⟩ := hrel
        clear HG
        obtain ⟨a, cap, al, capl, rfl, hI, hkq, hfr, hOw, hdis⟩ := hGi.out
        clear hGi
        by_cases hij : i < j
        · have hrow1 : Row .u8 wB (some ⟨gb, i, none⟩) 1 [B.getD i 0] := ⟨rfl, by omega, fun _ => ⟨gb, i, rfl, hgl, fun q hq => by
            obtain rfl : q = 0 := by omega
            obtain ⟨b0, o0, hb0, _, hc0⟩ := HX.out.2.2.cell (by omega)
            cases hb0
            have := hc0 i hij
            rw [Nat.zero_add] at this
            rw [Nat.add_zero, this]; rfl⟩, fun x hx => by rw [List.mem_singleton.1 hx]; exact HX.out.2.1 _ (HX.out.2.2.at_ hij)⟩
          have htk : B.take i ++ [B.getD i 0] = B.take (i + 1) := by
            rw [List.take_succ_eq_append_getElem (by have := HX.out.1; omega)]
            simp [List.getD, show i < B.length by have := HX.out.1; omega]
          have hti : (B.take i).length ≤ 200 := by rw [List.length_take]; omega
          have hw := write_walk hI (hrow1.keep hkq) (capb := j - i) (fun h => by cases h) (fun k hk _ e => by rw [(blkOf_some _ _ _ _).1 hk] at e; omega) (by omega)
          rw [htk] at hw
          have HW := Lib.hid hw
          have HI := Lib.hid hI
          have hov := oneV_succ gb j i
          have HOV := Lib.hid hov
          clear hw htk hti hrow1 hI hov
          have hi0 : (0 : Int) ≤ i := by omega
          have hi1 : (i : Int) < j := by omega
          have hi2 : (i : Int) ≤ (i : Int) + 1 := by omega
          have hi3 : (i : Int) + 1 ≤ j := by omega
          have hi4 : ¬ i = j := by omega
          have hi5 : ¬ j = i := by omega
          go_wp2_with fail
          refine HW.out.mono ?_
          rintro e w6 ⟨rfl, a6, cap6, hI6, hk6, hf6⟩
          have hOw6 := hOw.keep hk6 (fun k hk hS => by
            rcases hS with hS | hS
            · exact (hdis k hk).2.1 hS
            · exact (hdis k hk).2.2 hS)
          have hol := hOw.lt
          have hwq := hkq.size
          have hk6s := hk6.size
          clear HW
          go_wp2_with (first | (refine wpList_bs rfl 30 22 1 _ rfl [.slice (some ⟨gb, i, none⟩) 1 (j - i)] Try.underlying30 Try.bsSl rfl (by decide) (by decide) (by first | rfl | simp [Act.eval]) (by simp [Value.cells]) ?_) | (at_builtin; go_must (refine wpl_append rfl _ _ 30 rfl 22 1 24 Try.underlying30 Try.infoSl (by omega) al capl i (oneV gb j i) rfl (hOw6.keep0 ((Keeps.refl _ _).alloc _)) _ 1 1 [.slice (some ⟨gb, i, none⟩) 1 (j - i)] rfl (Src.one (Blk.new _ _ _) rfl) (by unfold maxLen; omega) (by omega) ?_)))
          intro a7 cap7 w7 hOw7 hk7 hf7
          try intro _
          rw [HOV.out] at hOw7
          have hf7' : ∀ k, blkOf a7 k → blkOf al k ∨ k = w6.heap.size + 1 := fun k hk => by have := hf7 k hk; simpa using this
          have hI7 : IsHash w7 g a6 cap6 (B.take (i + 1)) := HashAt.keep (HashAt.keep0 hI6 ((Keeps.refl Nil w6).alloc _)) hk7 (fun k hk hb => by
            rcases hk with hk | hk
            · exact (hdis k hb).2.1 hk
            · rcases hf6 k hk with h' | h'
              · exact (hdis k hb).2.2 h'
              · have := hol k hb; omega)
          have hGn : LenGo wB gb j g B (i + 1) (.slice a7 (i + 1) cap7) w7 := ⟨a6, cap6, a7, cap7, rfl, hI7, ((hkq.step hk6 (fun k hk => by
            rcases hk with rfl | hk
            · exact .inr hg5
            · exact .inr (hfr k hk))).trans ((Keeps.refl Nil w6).alloc _)).step hk7 (fun k hk => .inr (hdis k hk).1), fun k hk => by
              rcases hf6 k hk with h' | h'
              · exact hfr k h'
              · omega, hOw7, fun k hk => by
              rcases hf7' k hk with h' | h'
              · refine ⟨(hdis k h').1, (hdis k h').2.1, fun hm' => ?_⟩
                rcases hf6 k hm' with h'' | h''
                · exact (hdis k h').2.2 h''
                · have := hol k h'; omega
              · have h1 := hI6.obj.lt
                refine ⟨by omega, by omega, fun hm' => ?_⟩
                have := hI6.rest.lt k hm'
                omega⟩
          clear hOw7 hk7 hf7 hf7' hI7 hI6 hk6 hf6 hOw6 hOw hdis hol
          go_wp2_with fail
          go_roundw
          case rel => first | exact ⟨i + 1, by omega, by go_num, hGn⟩ | ((repeat apply Exists.intro); exact ⟨⟨i + 1, by omega, by go_num, hGn⟩, rfl⟩)
          case measure => simp [intOf]; omega
        · obtain rfl : i = j := by omega
          have hBl := HX.out.1
          have htf : B.take i = B := List.take_of_length_le (by omega)
          rw [htf] at hI
          have hwn := write_walk hI (row_none wr) (capb := 0) (fun _ => ⟨rfl, rfl⟩) (fun k hk h0 => by omega) (by simp; omega)
          rw [List.append_nil] at hwn
          have HWN := Lib.hid hwn
          have hML : ∀ w', Own w' 22 1 al capl i (oneV gb i i) → Keeps Nil wB w' → ManyB w' al i (B.map fun x => [x]) := fun w' hO hK' => ⟨by simp; omega, by omega, fun h0 => by
            obtain ⟨gl, rfl, _, hrl⟩ := hO.some h0
            refine ⟨gl, 0, rfl, fun q hq => ⟨some ⟨gb, q, none⟩, 1, i - q, ?_, ⟨by simp [List.getD, show q < B.length by omega], by omega, fun _ => ⟨gb, q, rfl, Nat.lt_of_lt_of_le hgl hK'.size, fun r hr => ?_⟩, fun x hx => ?_⟩, fun h => by cases h⟩⟩
            · exact hrl q _ (by simp [oneV, hq])
            · obtain rfl : r = 0 := by omega
              obtain ⟨b0, o0, hb0, _, hc0⟩ := (HX.out.2.2.keep hK').cell (by omega)
              cases hb0
              have := hc0 q hq
              rw [Nat.zero_add] at this
              rw [Nat.add_zero, this]
              simp [List.getD, show q < B.length by omega]
            · have hx' : x = B.getD q 0 := by simpa [List.getD, show q < B.length by omega] using hx
              rw [hx']; exact HX.out.2.1 _ (HX.out.2.2.at_ hq)⟩
          have HML := Lib.hid hML
          have hq := Try.eqlDigSame B
          have hflat := singles_flat B
          have hSum : ∀ w' g' a' cap', IsHash w' g' a' cap' B → Calls Try.prog 12 #[.pointer (some ⟨g', 0, none⟩)] w' fun e w'' => e = .returned (.agg (byteV (digest B)).toArray) ∧ Keeps Nil w' w'' := fun w' g' a' cap' h => sum_walk h (by omega)
          have hAll : ∀ w' a' n' cap' L, ManyB w' a' n' L → L.flatten = B → Calls Try.prog 13 #[.slice a' n' cap'] w' fun e w'' => e = .returned (.agg (byteV (digest B)).toArray) ∧ Keeps Nil w' w'' := fun w' a' n' cap' L h hf => by
            have := shaSum_walk (cap := cap') h (by rw [hf]; omega)
            rwa [hf] at this
          have HSum := Lib.hid hSum
          have HAll := Lib.hid hAll
          have HF := Lib.hid hflat
          clear hwn hML hSum hAll hflat htf hI hBl
          generalize byteV (digest B) = D at *
          go_wp2_with fail
          refine HWN.out.mono ?_
          rintro e w8 ⟨rfl, a8, cap8, h8, hk8, hf8⟩
          have hk8' : Keeps Nil wB w8 := hkq.step hk8 (fun k hk => by
            rcases hk with rfl | hk
            · exact .inr hg5
            · exact .inr (hfr k hk))
          have hOw8 := hOw.keep hk8 (fun k hk hS => by
            rcases hS with hS | hS
            · exact (hdis k hk).2.1 hS
            · exact (hdis k hk).2.2 hS)
          clear HWN hk8 hf8 hOw hdis hfr hkq
          go_wp2_with fail
          refine (HSum.out w8 g a8 cap8 h8).mono ?_
          rintro e w9 ⟨rfl, hk9⟩
          have hk9' := hk8'.trans hk9
          have hOw9 := hOw8.keep0 hk9
          clear h8 hk8' hOw8 hk9
          go_wp2_with (refine wpList_bs rfl 30 22 1 _ rfl [.slice (some ⟨gb, 0, none⟩) i i] Try.underlying30 Try.bsSl rfl (by decide) (by decide) (by first | rfl | simp [Act.eval]) (by simp [Value.cells]) ?_)
          have hkc := (Keeps.refl Nil w9).alloc (.cells [Value.slice (some ⟨gb, 0, none⟩) i i].toArray 22)
          have hMB := ManyB.one (Blk.new w9 [Value.slice (some ⟨gb, 0, none⟩) i i] 22) (HX.out.2.2.keep (hk9'.trans hkc)) (fun h => by cases h)
          go_wp2_with fail
          refine (HAll.out _ _ _ _ _ hMB (by simp)).mono ?_
          rintro e w10 ⟨rfl, hk10⟩
          have hk10' := (hk9'.trans hkc).trans hk10
          have hOw10 := (hOw9.keep0 hkc).keep0 hk10
          clear hMB hkc hk10 hk9' hOw9
          go_wp2_with fail
          refine (HAll.out _ _ _ _ _ (HML.out w10 hOw10 hk10') HF.out).mono ?_
          rintro e w11 ⟨rfl, hk11⟩
          have hk11' := hk10'.trans hk11
          clear hk10' hk11 hOw10
          go_wp2_with (refine wpList_bs rfl 30 22 1 _ rfl [.slice (some ⟨gb, 0, none⟩) i i] Try.underlying30 Try.bsSl rfl (by decide) (by decide) (by first | rfl | simp [Act.eval]) (by simp [Value.cells]) ?_)
          have hkc := (Keeps.refl Nil w11).alloc (.cells [Value.slice (some ⟨gb, 0, none⟩) i i].toArray 22)
          have hMB := ManyB.one (Blk.new w11 [Value.slice (some ⟨gb, 0, none⟩) i i] 22) (HX.out.2.2.keep (hk11'.trans hkc)) (fun h => by cases h)
          go_wp2_with fail
          refine (HAll.out _ _ _ _ _ hMB (by simp)).mono ?_
          rintro e w12 ⟨rfl, hk12⟩
          have hkF := hKB.trans ((hk11'.trans hkc).trans hk12)
          clear hMB hkc hk12 hk11'
          go_wp2_with fail
          go_ret
          exact ⟨by first | rfl | simp, hkF⟩
end Go.Proofs.Ytnkahfpinkgimaa
