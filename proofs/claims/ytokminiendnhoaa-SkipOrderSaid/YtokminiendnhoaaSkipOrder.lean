/-
  The law SkipOrder's walk.
-/
import Derived.Test.YtokminiendnhoaaSkipFirst
namespace Go.Proofs.Ytokminiendnhoaa
open Go.RowKit

/-- The entry of a number: its key, and its number below 100. -/
def entO (x : Nat) : Ent := (key1 1, keyOf (x : Int), ((x % 100 : Nat) : Int))
theorem entO_wf (x : Nat) : WfE (entO x) := ⟨rfl, keyOf_len _, key1_bytes 1 (by omega) (by omega), keyOf_bytes _, by simp [entO]; omega, by simp [entO]; omega⟩
def stepO (W : List Nat) (i n : Nat) : List Nat := W.filter (fun x => x % 100 != n) ++ [100 * i + n]
/-- No two of one number below 100. -/
def ApartO (W : List Nat) : Prop := W.Pairwise (fun x y => x % 100 ≠ y % 100)
theorem stepO_apart {W : List Nat} (h : ApartO W) (i n : Nat) (hn : n < 12) : ApartO (stepO W i n) := by
  unfold ApartO stepO
  rw [List.pairwise_append]
  refine ⟨h.sublist List.filter_sublist, by simp, fun x hx y hy => ?_⟩
  rw [List.mem_singleton.1 hy]
  have := (List.mem_filter.1 hx).2
  simp at this
  omega
theorem stepO_length (W : List Nat) (i n : Nat) : (stepO W i n).length ≤ W.length + 1 := by
  have := List.length_filter_le (fun x => x % 100 != n) W
  simp [stepO]
  omega
theorem isE_entO (n x : Nat) : isE (key1 1) (n : Int) (entO x) = (x % 100 == n) := by
  unfold isE entO
  simp only [beq_self_eq_true, Bool.true_and]
  rw [Bool.eq_iff_iff, beq_iff_eq, beq_iff_eq]
  omega
theorem eraseP_apart {W : List Nat} (h : ApartO W) (n : Nat) : W.eraseP (fun x => x % 100 == n) = W.filter (fun x => x % 100 != n) := by
  induction W with
  | nil => rfl
  | cons x W ih =>
    have h' := List.pairwise_cons.1 h
    by_cases e : x % 100 = n
    · have h1 : (x % 100 == n) = true := by simpa using e
      have h2 : (x % 100 != n) = false := by simpa using e
      rw [List.filter_cons, h2]
      simp only [List.eraseP_cons, h1, Bool.false_eq_true, if_false, cond_true]
      symm
      rw [List.filter_eq_self]
      intro y hy
      have := h'.1 y hy
      simp
      omega
    · have h1 : ¬ (x % 100 == n) = true := by simpa using e
      have h2 : (x % 100 != n) = true := by simpa using e
      have h3 : (x % 100 == n) = false := by simpa using e
      rw [List.filter_cons, h2, if_pos rfl, ← ih h'.2]
      simp only [List.eraseP_cons, h3, cond_false]
theorem put_entO {W : List Nat} (h : ApartO W) (i n : Nat) (hn : n < 12) (hl : W.length ≤ 30) : putE (W.map entO) (key1 1) n (keyOf ((100 * i + n : Nat) : Int)) = (stepO W i n).map entO := by
  have ht : takeE (W.map entO) (key1 1) n = (W.filter (fun x => x % 100 != n)).map entO := by
    rw [takeE_eraseP, List.eraseP_map]
    congr 1
    rw [← eraseP_apart h n]
    congr 1
    funext x
    exact isE_entO n x
  unfold putE
  rw [ht]
  have h1 : ¬ 40 ≤ ((W.filter (fun x => x % 100 != n)).map entO).length := by
    have := List.length_filter_le (fun x => x % 100 != n) W
    simp
    omega
  rw [if_neg h1]
  unfold stepO
  rw [List.map_append]
  congr 1
  simp [entO]
  omega
theorem mapInt_snoc (W : List Nat) (x : Nat) : (W ++ [x]).map (fun (x : Nat) => Value.int .i64 x) = W.map (fun (x : Nat) => Value.int .i64 x) ++ [.int .i64 x] := by simp
theorem Try.neqSame {l : List Int} (hl : l.length = 32) (bl : AreB l) : ∀ w, (binOp .neq 37 (keyV l) (keyV l)).run Try.prog w = .ok (.bool false) w := fun w => by
  rw [neqKey 37 5 32 Try.undKey Try.undU8 Try.sizeU8 hl hl bl bl w]
  simp
theorem Try.infoInt : (Try.prog.info? 3).map (fun i => (i.zero.map (·.cells.size), i.size, i.bytes)) = some (some 1, 1, 8) := by kernel_rfl
theorem Try.bsInt : (Try.prog.info? 3).map (fun i => (i.size, i.zero.isSome)) = some (1, true) := by kernel_rfl
def intV (W : List Nat) : List Value := W.map fun (x : Nat) => Value.int .i64 x
theorem intV_snoc (W : List Nat) (x : Nat) : intV (W ++ [x]) = intV W ++ [.int .i64 x] := by simp [intV]
theorem intV_at (W : List Nat) (i : Nat) (h : i < W.length) : (intV W)[i]? = some (.int .i64 ((W.getD i 0 : Nat) : Int)) := by simp [intV, List.getD, h]

set_option maxRecDepth 100000 in
set_option maxHeartbeats 16000000 in
theorem skipOrder_walk (a0 : Option Addr) (len0 cap0 : Nat) (zs : List Int) (w : World) (hrow : Row .i64 w a0 len0 zs) :
    Calls Try.prog 5 #[.slice a0 len0 cap0] w (TrueK w) := by
  have hmost := hrow.most
  go_enter Try.func5, Try.ntmps5
  go_wp2_with fail
  refine (skipfirst_walk _).mono ?_
  rintro e wa ⟨rfl, hka⟩
  by_cases hlen : 30 < len0
  · go_wp2_with fail
    go_ret
    exact ⟨rfl, hka⟩
  · go_wp2_with fail
    have h0 : IsSt 34 42 (wa.alloc (.cells #[.slice none 0 0] 34)) wa.heap.size none 0 ([].map entO) := ⟨Blk.new wa [.slice none 0 0] _, Own.nil _ _ _, blkOf_none _, fun e he => by cases he⟩
    have hk0 : Keeps Nil w (wa.alloc (.cells #[.slice none 0 0] 34)) := hka.alloc _
    have hgs : w.heap.size ≤ wa.heap.size := hka.size
    have D0 : ∀ k, stOf wa.heap.size none k → w.heap.size ≤ k := fun k hk => by
      rcases hk with rfl | hk
      · exact hgs
      · exact (blkOf_none _ hk).elim
    generalize wa.heap.size = gs at *
    generalize wa.alloc (.cells #[.slice none 0 0] 34) = wb at *
    clear hka
    go_loopw [5, 6] (fun v5 v6 wr => ∃ (j : Nat) (W : List Nat) (aw : Option Addr) (cw : Nat) (ag : Option Addr) (cg : Nat), j ≤ len0 ∧ v6 = .int .i64 j ∧ v5 = .slice aw W.length cw ∧ IsSt 34 42 wr gs ag cg (W.map entO) ∧ Own wr 3 1 aw cw W.length (intV W) ∧ Hid (Keeps Nil w wr ∧ (∀ k, stOf gs ag k → w.heap.size ≤ k) ∧ (∀ k, blkOf aw k → w.heap.size ≤ k) ∧ (∀ k, blkOf aw k → ¬ stOf gs ag k)) ∧ Hid (ApartO W ∧ W.length ≤ j ∧ ∀ x ∈ W, x < 100 * j)) (fun _ v6 _ => len0 - (intOf v6).toNat)
    case atStart => exact ⟨0, [], none, 0, none, 0, Nat.zero_le _, rfl, rfl, h0, Own.nil _ _ _, ⟨hk0, D0, fun k hk => (blkOf_none k hk).elim, fun k hk => (blkOf_none k hk).elim⟩, ⟨List.Pairwise.nil, Nat.le_refl _, fun x hx => by cases hx⟩⟩
    case round =>
      obtain ⟨j, W, aw, cw, ag, cg, hj, rfl, rfl, hS, hO, hF, hW⟩ := hrel
      clear h0 hk0 D0
      have hwl := hW.out.2.1
      by_cases hlt : j < len0
      · obtain ⟨bb, off, rfl, hbb, hc⟩ := hrow.cell (by omega)
        have hcell := hF.out.1.cell (hc j hlt) (fun h => h)
        have hf := i64_wf (hrow.wf _ (hrow.at_ hlt))
        clear hc
        generalize zs.getD j 0 = f at *
        go_wp2_with fail
        refine (number_walk f 12 _ (by omega) (by omega) (by omega) (by omega)).mono ?_
        rintro e wd ⟨rfl, rfl⟩
        have hb0 : 0 ≤ f % 12 := Int.emod_nonneg _ (by omega)
        have hb1 : f % 12 < 12 := Int.emod_lt_of_pos _ (by omega)
        generalize f % 12 = f2 at *
        obtain ⟨n, rfl⟩ := Int.eq_ofNat_of_zero_le hb0
        have hn : n < 12 := by omega
        have hxe : (100 * (j : Int) + n) = ((100 * j + n : Nat) : Int) := by omega
        have HXE := Lib.hid hxe
        clear hxe
        go_wp2_with (refine wpl_buildC rfl 37 0 _ rfl _ (Try.builtKey1 _) ?_)
        refine (key_walk (100 * (j : Int) + n) _ (by omega) (by omega)).mono ?_
        rintro e w1 ⟨rfl, hk1⟩
        rw [HXE.out]
        have hS1 := hS.keep0 hk1
        have hO1 := hO.keep0 hk1
        go_wp2_with fail
        refine (put_walk hS1 (by simp; omega) (key1 1) (keyOf ((100 * j + n : Nat) : Int)) n ⟨rfl, keyOf_len _, key1_bytes 1 (by omega) (by omega), keyOf_bytes _, by simp, by simp; omega⟩).mono ?_
        rintro e w2 ⟨ag2, cg2, rfl, hS2, hk2, hf2⟩
        obtain ⟨hFk, hF1, hF2, hF3⟩ := hF.out
        have hlt1 : ∀ k, stOf gs ag k → k < w1.heap.size := hS1.lt
        have hlto : ∀ k, blkOf aw k → k < w1.heap.size := hO1.lt
        have hO2 := hO1.keep hk2 (fun k hk h => hF3 k hk h)
        have hK2 : Keeps Nil w w2 := (hFk.trans hk1).step hk2 (fun i hi => .inr (hF1 i hi))
        have hF1' : ∀ k, stOf gs ag2 k → w.heap.size ≤ k := fun k hk => by
          rcases hf2 k hk with h | h
          · exact hF1 k h
          · have := hFk.size; have := hk1.size; omega
        rw [put_entO hW.out.1 j n hn (by omega)] at hS2
        have HG := Lib.hid (And.intro hK2 (And.intro hF1' hF2))
        have HO := Lib.hid hO2
        have hcw := hO2.2.1
        have hmw := hO2.2.2.1
        unfold maxLen at hmw
        clear hFk hF1 hF2 hF3 hlt1 hlto hO2 hK2 hF1' hf2 hk2 hS1 hO1 hk1 hF hS hO
        go_wp2_with fail
        go_loopw [8, 9] (fun v8 v9 wr => ∃ (m : Nat) (an : Option Addr) (cn : Nat), m ≤ W.length ∧ v9 = .int .i64 m ∧ v8 = .slice an ((W.take m).filter (fun x => x % 100 != n)).length cn ∧ Own wr 3 1 an cn ((W.take m).filter (fun x => x % 100 != n)).length (intV ((W.take m).filter (fun x => x % 100 != n))) ∧ Hid (Keeps Nil w2 wr ∧ ∀ k, blkOf an k → w2.heap.size ≤ k)) (fun _ v9 _ => W.length - (intOf v9).toNat)
        case atStart => exact ⟨0, none, 0, Nat.zero_le _, rfl, rfl, Own.nil _ _ _, ⟨Keeps.refl _ _, fun k hk => (blkOf_none k hk).elim⟩⟩
        case round =>
          obtain ⟨m, an, cn, hm, rfl, rfl, hN, hFN⟩ := hrel
          have hlf := List.length_filter_le (fun x => x % 100 != n) (W.take m)
          have hlm : (W.take m).length ≤ m := List.length_take_le _ _
          by_cases hml : m < W.length
          · obtain ⟨x, hx⟩ : ∃ x, W[m]? = some x := ⟨_, List.getElem?_eq_getElem hml⟩
            have hxw := hW.out.2.2 x (List.mem_of_getElem? hx)
            have hOr := HO.out.keep0 hFN.out.1
            obtain ⟨bw, ha, hbw, hrg⟩ := hOr.some (by omega)
            subst ha
            have hcx := hrg m (.int .i64 (x : Int)) (by simp [intV, hx])
            simp only [Nat.zero_add] at hcx
            have hts : W.take (m + 1) = W.take m ++ [x] := by
              rw [List.take_succ_eq_append_getElem hml]
              rw [List.getElem?_eq_getElem hml] at hx
              rw [Option.some.inj hx]
            have hm0 : (0 : Int) ≤ m := by omega
            have hm1 : (m : Int) < W.length := by omega
            have hx0 : (0 : Int) ≤ x := by omega
            have hx1 : (x : Int) ≤ 100000 := by omega
            by_cases hq : x % 100 = n
            · have hfl : (W.take (m + 1)).filter (fun x => x % 100 != n) = (W.take m).filter (fun x => x % 100 != n) := by
                rw [hts, List.filter_append]
                simp [hq]
              have HFL := Lib.hid hfl
              have hd : ((x : Int) % 100 != (n : Int)) = false := by
                have : (x : Int) % 100 = n := by omega
                rw [this]; exact bne_self_eq_false _
              clear hfl hts hx hq hOr hrg
              generalize (W.take m).filter (fun x => x % 100 != n) = F at *
              go_wp2_with fail
              go_roundw
              case rel => first | exact ⟨m + 1, an, cn, by omega, by go_num, by rw [HFL.out], by rw [HFL.out]; exact hN, hFN⟩ | ((repeat apply Exists.intro); exact ⟨⟨m + 1, an, cn, by omega, by go_num, by rw [HFL.out], by rw [HFL.out]; exact hN, hFN⟩, rfl⟩)
              case measure => simp [intOf]; omega
            · have hfl : (W.take (m + 1)).filter (fun x => x % 100 != n) = (W.take m).filter (fun x => x % 100 != n) ++ [x] := by
                rw [hts, List.filter_append]
                simp [hq]
              have HFL := Lib.hid hfl
              have hd : ((x : Int) % 100 != (n : Int)) = true := by
                rw [bne_iff_ne]; omega
              clear hfl hts hx hq hOr hrg
              generalize (W.take m).filter (fun x => x % 100 != n) = F at *
              go_wp2_with (first | (refine wpList_bs rfl 22 3 1 _ rfl [.int .i64 (x : Int)] Try.underlying22 Try.bsInt rfl (by decide) (by decide) rfl (by simp [Value.cells]) ?_) | (at_builtin; go_must (refine wpl_append rfl _ _ 22 rfl 3 1 8 Try.underlying22 Try.infoInt (by omega) _ _ F.length _ rfl (hN.keep0 ((Keeps.refl _ _).alloc _)) _ 1 1 [.int .i64 (x : Int)] rfl (Src.one (Blk.new _ _ _) rfl) (by unfold maxLen; omega) (by omega) ?_)))
              intro a4 c4 w4 hown4 hk4 hf4 _
              have hk04 : Keeps Nil w2 w4 := (hFN.out.1.alloc _).step hk4 (fun i hi => .inr (hFN.out.2 i hi))
              have hd4 : ∀ k, blkOf a4 k → w2.heap.size ≤ k := fun k hk => by
                rcases hf4 k hk with h | h
                · exact hFN.out.2 k h
                · have := hFN.out.1.size; (try simp only [size_alloc'] at h); omega
              have HK4 := Lib.hid (And.intro hk04 hd4)
              have hlen4 : (F ++ [x]).length = F.length + 1 := by simp
              have hown5 : Own w4 3 1 a4 c4 (F ++ [x]).length (intV (F ++ [x])) := by rw [hlen4, intV_snoc]; exact hown4
              clear hk04 hd4 hf4 hk4 hown4
              go_wp2_with fail
              rw [← hlen4]
              go_roundw
              case rel => first | exact ⟨m + 1, a4, c4, by omega, by go_num, by rw [HFL.out], by rw [HFL.out]; exact hown5, HK4⟩ | ((repeat apply Exists.intro); exact ⟨⟨m + 1, a4, c4, by omega, by go_num, by rw [HFL.out], by rw [HFL.out]; exact hown5, HK4⟩, rfl⟩)
              case measure => simp [intOf]; omega
          · obtain rfl : m = W.length := by omega
            rw [List.take_of_length_le (Nat.le_refl _)] at hN hlf
            have hst : stepO W j n = W.filter (fun x => x % 100 != n) ++ [100 * j + n] := rfl
            have hstl := stepO_length W j n
            have hsta := stepO_apart hW.out.1 j n hn
            have hstx : ∀ x ∈ stepO W j n, x < 100 * (j + 1) := fun x hx => by
              rcases List.mem_append.1 hx with h | h
              · have := hW.out.2.2 x (List.mem_filter.1 h).1; omega
              · rw [List.mem_singleton.1 h]; omega
            have HSt := Lib.hid (And.intro hst (And.intro hsta hstx))
            have hSr := hS2.keep0 hFN.out.1
            clear hst hsta hstx
            rw [List.take_of_length_le (Nat.le_refl _)]
            generalize W.filter (fun x => x % 100 != n) = F at *
            go_wp2_with (first | (refine wpList_bs rfl 22 3 1 _ rfl [.int .i64 (100 * (j : Int) + n)] Try.underlying22 Try.bsInt rfl (by decide) (by decide) rfl (by simp [Value.cells]) ?_) | (at_builtin; go_must (refine wpl_append rfl _ _ 22 rfl 3 1 8 Try.underlying22 Try.infoInt (by omega) _ _ F.length _ rfl (hN.keep0 ((Keeps.refl _ _).alloc _)) _ 1 1 [.int .i64 (100 * (j : Int) + n)] rfl (Src.one (Blk.new _ _ _) rfl) (by unfold maxLen; omega) (by omega) ?_)))
            intro a4 c4 w4 hown4 hk4 hf4 _
            obtain ⟨hK2, hF1, hF2⟩ := HG.out
            obtain ⟨hst, hsta, hstx⟩ := HSt.out
            have hk04 : Keeps Nil w2 w4 := (hFN.out.1.alloc _).step hk4 (fun i hi => .inr (hFN.out.2 i hi))
            have hd4 : ∀ k, blkOf a4 k → w2.heap.size ≤ k := fun k hk => by
              rcases hf4 k hk with h | h
              · exact hFN.out.2 k h
              · have := hFN.out.1.size; (try simp only [size_alloc'] at h); omega
            have hS4 := hS2.keep0 hk04
            have hlen4 : (stepO W j n).length = F.length + 1 := by rw [hst]; simp
            have hown5 : Own w4 3 1 a4 c4 (stepO W j n).length (intV (stepO W j n)) := by rw [hlen4, hst, intV_snoc, ← HXE.out]; exact hown4
            have hd3 : ∀ k, blkOf a4 k → ¬ stOf gs ag2 k := fun k hk h => by have := hd4 k hk; have := hS2.lt k h; omega
            have hK4 := hK2.trans hk04
            have HK4 := Lib.hid (And.intro hK4 (And.intro hF1 (And.intro (fun (k : Nat) (hk : blkOf a4 k) => Nat.le_trans hK2.size (hd4 k hk)) hd3)))
            have HWn := Lib.hid (And.intro hsta (And.intro (show (stepO W j n).length ≤ j + 1 by omega) hstx))
            clear hk04 hd4 hf4 hk4 hown4 hd3 hK4 hK2 hF1 hF2 hst hsta hstx HG HO hSr hS2 hN hFN HSt
            go_wp2_with fail
            rw [← hlen4]
            go_roundw
            case rel => first | exact ⟨j + 1, stepO W j n, a4, c4, ag2, cg2, by omega, by go_num, rfl, hS4, hown5, HK4, HWn⟩ | ((repeat apply Exists.intro); exact ⟨⟨j + 1, stepO W j n, a4, c4, ag2, cg2, by omega, by go_num, rfl, hS4, hown5, HK4, HWn⟩, rfl⟩)
            case measure => simp [intOf]; omega
      · obtain rfl : j = len0 := by omega
        obtain ⟨hFk, hF1, hF2, hF3⟩ := hF.out
        have hml : (W.map entO).length = W.length := by simp
        go_wp2_with fail
        refine (all_walk hS (by simp; omega)).mono ?_
        rintro e w6 ⟨a6, c6, rfl, hown6, hk6, hf6⟩
        rw [hml] at hown6
        rw [hml]
        have hSk := hS.keep0 hk6
        have hOk := hO.keep0 hk6
        have hK6 := hFk.trans hk6
        have hwf : ∀ e ∈ W.map entO, WfE e := fun e he => by
          obtain ⟨x, _, rfl⟩ := List.mem_map.1 he
          exact entO_wf x
        have hxs : ∀ x ∈ W, x < 100 * j := hW.out.2.2
        have hcw := hO.2.1
        have hmw := hO.2.2.1
        have hc6 := hown6.2.1
        have hm6 := hown6.2.2.1
        unfold maxLen at hmw hm6
        have hnn : ((W.length : Int) != (W.length : Int)) = false := bne_self_eq_false _
        clear hS hO hF hFk hF1 hF2 hF3 hk6 hf6
        have HXS := Lib.hid (And.intro hxs hwf)
        clear hxs hwf
        go_wp2_with fail
        go_loopw [11] (fun v wr => ∃ k : Nat, k ≤ W.length ∧ v = .int .i64 k ∧ Hid (Keeps Nil w6 wr)) (fun v _ => W.length - (intOf v).toNat)
        case atStart => exact ⟨0, Nat.zero_le _, rfl, Keeps.refl _ _⟩
        case round =>
          obtain ⟨k, hk, rfl, hkr⟩ := hrel
          by_cases hkl : k < W.length
          · obtain ⟨x, hx⟩ : ∃ x, W[k]? = some x := ⟨_, List.getElem?_eq_getElem hkl⟩
            have hxb := HXS.out.1 x (List.mem_of_getElem? hx)
            have hex : (W.map entO)[k]? = some (entO x) := by simp [hx]
            have hOr := hOk.keep0 hkr.out
            have hEr := hown6.keep0 hkr.out
            obtain ⟨bw, haw, hbw, hrg⟩ := hOr.some (by omega)
            rw [← hml] at hEr
            obtain ⟨ba, ha6, hba, hre⟩ := own_ent hEr HXS.out.2 hex
            subst haw ha6
            have hxw := entO_wf x
            have hl1 : (byteV (entO x).1).length = 32 := by simp [byteV, hxw.l1]
            have hl2 : (byteV (entO x).2.1).length = 32 := by simp [byteV, hxw.l2]
            have hcx := hrg k (.int .i64 (x : Int)) (by simp [intV, hx])
            simp only [Nat.zero_add] at hcx
            have hcn := hre 64 (.int .u32 ((x % 100 : Nat) : Int)) (by
              unfold entV
              rw [List.getElem?_append_right (by omega), List.getElem?_append_right (by omega), hl1, hl2]
              rfl)
            have hr0 : wr.rangeAt ba (k * 65) (byteV (key1 1)) := fun j v hv => hre j v (by
              unfold entV
              rw [List.getElem?_append_left (by have := (List.getElem?_eq_some_iff.1 hv).1; exact this)]
              exact hv)
            have hr1 : wr.rangeAt ba (k * 65 + 32) (byteV (keyOf (x : Int))) := fun j v hv => by
              have hj := (List.getElem?_eq_some_iff.1 hv).1
              have hj2 : j < 32 := by simp [byteV, keyOf_len] at hj; exact hj
              have := hre (32 + j) v (by
                unfold entV
                rw [List.getElem?_append_right (by omega), hl1, List.getElem?_append_left (by omega)]
                rw [show 32 + j - 32 = j by omega]
                exact hv)
              rw [Nat.add_assoc]
              exact this
            have hu37 := Try.undKey
            have hi1 : (Try.prog.info? 37).map (·.size) = some (byteV (key1 1)).length := Try.infoKey
            have hi2 : (Try.prog.info? 37).map (·.size) = some (byteV (keyOf (x : Int))).length := by
              rw [show (byteV (keyOf (x : Int))).length = 32 by simp [byteV, keyOf_len]]; exact Try.infoKey
            have hk0 : (0 : Int) ≤ k := by omega
            have hk1 : (k : Int) < W.length := by omega
            have hx0 : (0 : Int) ≤ x := by omega
            have hx1 : (x : Int) ≤ 100000 := by omega
            have hq1 := Try.neqSame rfl (key1_bytes 1 (by omega) (by omega))
            have hq2 := Try.neqSame (keyOf_len (x : Int)) (keyOf_bytes (x : Int))
            have hxm : ((x : Int) % 100 != IntKind.u32.wrap ((x : Int).tmod 100)) = false := by
              have : IntKind.u32.wrap ((x : Int).tmod 100) = (x : Int) % 100 := by
                rw [Int.tmod_eq_emod_of_nonneg hx0]
                simp [IntKind.wrap, IntKind.bits, IntKind.signed]
                omega
              rw [this]
              exact bne_self_eq_false _
            have hk8 : k * 65 + 64 = k * 65 + 64 := rfl
            clear hOr hEr hrg hre hex hx hl1 hl2 hk8
            go_wp2_with fail
            refine wp_region_held_drew (S := fun w' => w'.cell? ⟨ba, k * 65 + 64, none⟩ = some (.int .u32 ((x % 100 : Nat) : Int)) ∧ w'.cell? ⟨bw, k, none⟩ = some (.int .i64 (x : Int)) ∧ w'.rangeAt ba (k * 65) (byteV (key1 1)) ∧ w'.rangeAt ba (k * 65 + 32) (byteV (keyOf (x : Int)))) (by kernel_rfl) ?_ (fun hHeld => ?_)
            · exact ⟨hcn, hcx, by simpa using hr0, by simpa using hr1⟩
            refine takeL (i := 0) (v := _) rfl (by kernel_rfl) (by kernel_rfl) (by kernel_rfl) (fun _ _ _ h => h) (Or.inl ⟨by rfl, by intro w hSw; (try dsimp only at hSw); go_simp; try with_reducible rfl⟩) (by assumption) ?_
            try simp only [Act.put, List.setIfInBounds_toArray, List.set_cons_zero, List.set_cons_succ]
            refine takeL (i := 1) (v := _) rfl (by kernel_rfl) (by kernel_rfl) (by kernel_rfl) (fun _ _ _ h => h) (Or.inl ⟨by rfl, by intro w hSw; (try dsimp only at hSw); go_simp; try with_reducible rfl⟩) (by assumption) ?_
            try simp only [Act.put, List.setIfInBounds_toArray, List.set_cons_zero, List.set_cons_succ]
            refine takeL (i := 2) (v := _) rfl (by kernel_rfl) (by kernel_rfl) (by kernel_rfl) (fun _ _ _ h => h) (Or.inl ⟨by rfl, by intro w hSw; (try dsimp only at hSw); go_simp; try with_reducible rfl⟩) (by assumption) ?_
            try simp only [Act.put, List.setIfInBounds_toArray, List.set_cons_zero, List.set_cons_succ]
            refine takeL (i := 3) (v := _) rfl (by kernel_rfl) (by kernel_rfl) (by kernel_rfl) (fun _ _ _ h => h) (Or.inl ⟨by rfl, by intro w hSw; (try dsimp only at hSw); go_simp; try with_reducible rfl⟩) (by assumption) ?_
            try simp only [Act.put, List.setIfInBounds_toArray, List.set_cons_zero, List.set_cons_succ]
            refine takeL (i := 4) (v := _) rfl (by kernel_rfl) (by kernel_rfl) (by kernel_rfl) (fun _ _ _ h => h) (Or.inl ⟨by rfl, by intro w hSw; (try dsimp only at hSw); go_simp; try with_reducible rfl⟩) (by assumption) ?_
            try simp only [Act.put, List.setIfInBounds_toArray, List.set_cons_zero, List.set_cons_succ]
            refine takeL (i := 5) (v := _) rfl (by kernel_rfl) (by kernel_rfl) (by kernel_rfl) (fun _ _ _ h => h) (Or.inl ⟨by rfl, by intro w hSw; (try dsimp only at hSw); go_simp; try with_reducible rfl⟩) (by assumption) ?_
            try simp only [Act.put, List.setIfInBounds_toArray, List.set_cons_zero, List.set_cons_succ]
            refine takeL (i := 6) (v := _) rfl (by kernel_rfl) (by kernel_rfl) (by kernel_rfl) (fun _ _ _ h => h) (Or.inl ⟨by rfl, by intro w hSw; (try dsimp only at hSw); go_simp; try with_reducible rfl⟩) (by assumption) ?_
            try simp only [Act.put, List.setIfInBounds_toArray, List.set_cons_zero, List.set_cons_succ]
            refine takeL (i := 7) (v := _) rfl (by kernel_rfl) (by kernel_rfl) (by kernel_rfl) (fun _ _ _ h => h) (Or.inl ⟨by rfl, by intro w hSw; (try dsimp only at hSw); go_simp; try with_reducible rfl⟩) (by assumption) ?_
            try simp only [Act.put, List.setIfInBounds_toArray, List.set_cons_zero, List.set_cons_succ]
            refine takeL (i := 8) (v := _) rfl (by kernel_rfl) (by kernel_rfl) (by kernel_rfl) (fun _ _ _ h => h) (Or.inl ⟨by rfl, by intro w hSw; (try dsimp only at hSw); go_simp; try with_reducible rfl⟩) (by assumption) ?_
            try simp only [Act.put, List.setIfInBounds_toArray, List.set_cons_zero, List.set_cons_succ]
            refine takeL (i := 9) (v := _) rfl (by kernel_rfl) (by kernel_rfl) (by kernel_rfl) (fun _ _ _ h => h) (Or.inl ⟨by rfl, by intro w hSw; (try dsimp only at hSw); go_simp; try with_reducible rfl⟩) (by assumption) ?_
            try simp only [Act.put, List.setIfInBounds_toArray, List.set_cons_zero, List.set_cons_succ]
            refine takeL (i := 10) (v := _) rfl (by kernel_rfl) (by kernel_rfl) (by kernel_rfl) (fun _ _ _ h => h) (Or.inl ⟨by rfl, by intro w hSw; (try dsimp only at hSw); go_simp; try with_reducible rfl⟩) (by assumption) ?_
            try simp only [Act.put, List.setIfInBounds_toArray, List.set_cons_zero, List.set_cons_succ]
            refine takeL (i := 11) (v := _) rfl (by kernel_rfl) (by kernel_rfl) (by kernel_rfl) (fun _ _ _ h => h) (Or.inl ⟨by rfl, by intro w hSw; (try dsimp only at hSw); go_simp; try with_reducible rfl⟩) (by assumption) ?_
            try simp only [Act.put, List.setIfInBounds_toArray, List.set_cons_zero, List.set_cons_succ]
            refine takeL (i := 12) (v := _) rfl (by kernel_rfl) (by kernel_rfl) (by kernel_rfl) (fun _ _ _ h => h) (Or.inl ⟨by rfl, by intro w hSw; (try dsimp only at hSw); go_simp; try with_reducible rfl⟩) (by assumption) ?_
            try simp only [Act.put, List.setIfInBounds_toArray, List.set_cons_zero, List.set_cons_succ]
            refine takeL (i := 13) (v := _) rfl (by kernel_rfl) (by kernel_rfl) (by kernel_rfl) (fun _ _ _ h => h) (Or.inl ⟨by rfl, by intro w hSw; (try dsimp only at hSw); go_simp; try with_reducible rfl⟩) (by assumption) ?_
            try simp only [Act.put, List.setIfInBounds_toArray, List.set_cons_zero, List.set_cons_succ]
            refine takeL (i := 14) (v := _) rfl (by kernel_rfl) (by kernel_rfl) (by kernel_rfl) (fun _ _ _ h => h) (Or.inl ⟨by rfl, by intro w hSw; (try dsimp only at hSw); go_simp; try with_reducible rfl⟩) (by assumption) ?_
            try simp only [Act.put, List.setIfInBounds_toArray, List.set_cons_zero, List.set_cons_succ]
            refine takeL (i := 15) (v := _) rfl (by kernel_rfl) (by kernel_rfl) (by kernel_rfl) (fun _ _ _ h => h) (Or.inl ⟨by rfl, by intro w hSw; (try dsimp only at hSw); go_simp; try with_reducible rfl⟩) (by assumption) ?_
            try simp only [Act.put, List.setIfInBounds_toArray, List.set_cons_zero, List.set_cons_succ]
            refine takeL (i := 16) (v := _) rfl (by kernel_rfl) (by kernel_rfl) (by kernel_rfl) (fun _ _ _ h => h) (Or.inl ⟨by rfl, by intro w hSw; (try dsimp only at hSw); go_simp; try with_reducible rfl⟩) (by assumption) ?_
            try simp only [Act.put, List.setIfInBounds_toArray, List.set_cons_zero, List.set_cons_succ]
            refine takeL (i := 17) (v := _) rfl (by kernel_rfl) (by kernel_rfl) (by kernel_rfl) (fun _ _ _ h => h) (yieldsIf_load_mid (by rfl) 37 _ rfl ba (k*65) rfl (byteV (key1 1)) _ (fun w hSw => hSw.2.2.1) hu37 rfl hi1) (by assumption) ?_
            try simp only [Act.put, List.setIfInBounds_toArray, List.set_cons_zero, List.set_cons_succ]
            have hbk := Try.builtKey1 1
            refine takeL (i := 18) (v := .agg (byteV (key1 1)).toArray) rfl (by kernel_rfl) (by kernel_rfl) (by kernel_rfl) (fun _ _ _ h => h) (yieldsIf_build (by rfl) 37 _ rfl (byteV (key1 1)) _ hbk (by simp [Act.eval])) (by assumption) ?_
            try simp only [Act.put, List.setIfInBounds_toArray, List.set_cons_zero, List.set_cons_succ]
            refine takeL (i := 19) (v := _) rfl (by kernel_rfl) (by kernel_rfl) (by kernel_rfl) (fun _ _ _ h => h) (Or.inl ⟨by rfl, by intro w hSw; (try dsimp only at hSw); go_simp; try with_reducible rfl⟩) (by assumption) ?_
            try simp only [Act.put, List.setIfInBounds_toArray, List.set_cons_zero, List.set_cons_succ]
            refine takeL (i := 20) (v := _) rfl (by kernel_rfl) (by kernel_rfl) (by kernel_rfl) (fun _ _ _ h => h) (Or.inl ⟨by rfl, by intro w hSw; (try dsimp only at hSw); go_simp; try with_reducible rfl⟩) (by assumption) ?_
            try simp only [Act.put, List.setIfInBounds_toArray, List.set_cons_zero, List.set_cons_succ]
            refine takeL (i := 21) (v := _) rfl (by kernel_rfl) (by kernel_rfl) (by kernel_rfl) (fun _ _ _ h => h) (Or.inl ⟨by rfl, by intro w hSw; (try dsimp only at hSw); go_simp; try with_reducible rfl⟩) (by assumption) ?_
            try simp only [Act.put, List.setIfInBounds_toArray, List.set_cons_zero, List.set_cons_succ]
            refine takeL (i := 22) (v := _) rfl (by kernel_rfl) (by kernel_rfl) (by kernel_rfl) (fun _ _ _ h => h) (Or.inl ⟨by rfl, by intro w hSw; (try dsimp only at hSw); go_simp; try with_reducible rfl⟩) (by assumption) ?_
            try simp only [Act.put, List.setIfInBounds_toArray, List.set_cons_zero, List.set_cons_succ]
            refine takeL (i := 23) (v := _) rfl (by kernel_rfl) (by kernel_rfl) (by kernel_rfl) (fun _ _ _ h => h) (Or.inl ⟨by rfl, by intro w hSw; (try dsimp only at hSw); go_simp; try with_reducible rfl⟩) (by assumption) ?_
            try simp only [Act.put, List.setIfInBounds_toArray, List.set_cons_zero, List.set_cons_succ]
            refine takeL (i := 24) (v := _) rfl (by kernel_rfl) (by kernel_rfl) (by kernel_rfl) (fun _ _ _ h => h) (Or.inl ⟨by rfl, by intro w hSw; (try dsimp only at hSw); go_simp; try with_reducible rfl⟩) (by assumption) ?_
            try simp only [Act.put, List.setIfInBounds_toArray, List.set_cons_zero, List.set_cons_succ]
            refine takeL (i := 25) (v := _) rfl (by kernel_rfl) (by kernel_rfl) (by kernel_rfl) (fun _ _ _ h => h) (Or.inl ⟨by rfl, by intro w hSw; (try dsimp only at hSw); go_simp; try with_reducible rfl⟩) (by assumption) ?_
            try simp only [Act.put, List.setIfInBounds_toArray, List.set_cons_zero, List.set_cons_succ]
            refine takeL (i := 26) (v := _) rfl (by kernel_rfl) (by kernel_rfl) (by kernel_rfl) (fun _ _ _ h => h) (yieldsIf_load_mid (by rfl) 37 _ rfl ba (k*65+32) rfl (byteV (keyOf (x:Int))) _ (fun w hSw => hSw.2.2.2) hu37 rfl hi2) (by assumption) ?_
            try simp only [Act.put, List.setIfInBounds_toArray, List.set_cons_zero, List.set_cons_succ]
            refine takeL (i := 27) (v := _) rfl (by kernel_rfl) (by kernel_rfl) (by kernel_rfl) (fun _ _ _ h => h) (Or.inl ⟨by rfl, by intro w hSw; (try dsimp only at hSw); go_simp; try with_reducible rfl⟩) (by assumption) ?_
            try simp only [Act.put, List.setIfInBounds_toArray, List.set_cons_zero, List.set_cons_succ]
            refine takeL (i := 28) (v := _) rfl (by kernel_rfl) (by kernel_rfl) (by kernel_rfl) (fun _ _ _ h => h) (Or.inl ⟨by rfl, by intro w hSw; (try dsimp only at hSw); go_simp; try with_reducible rfl⟩) (by assumption) ?_
            try simp only [Act.put, List.setIfInBounds_toArray, List.set_cons_zero, List.set_cons_succ]
            refine takeL (i := 29) (v := _) rfl (by kernel_rfl) (by kernel_rfl) (by kernel_rfl) (fun _ _ _ h => h) (Or.inl ⟨by rfl, by intro w hSw; (try dsimp only at hSw); go_simp; try with_reducible rfl⟩) (by assumption) ?_
            try simp only [Act.put, List.setIfInBounds_toArray, List.set_cons_zero, List.set_cons_succ]
            refine takeL (i := 30) (v := _) rfl (by kernel_rfl) (by kernel_rfl) (by kernel_rfl) (fun _ _ _ h => h) (Or.inl ⟨by rfl, by intro w hSw; (try dsimp only at hSw); go_simp; try with_reducible rfl⟩) (by assumption) ?_
            try simp only [Act.put, List.setIfInBounds_toArray, List.set_cons_zero, List.set_cons_succ]
            have HK := Lib.hid (key_walk (x : Int) wr.drew (by omega) (by omega))
            refine onlyL (i := 31) rfl (by kernel_rfl) (fun K hK => ?_)
            go_simp
            refine HK.out.mono ?_
            rintro e w7 ⟨rfl, hk7⟩
            have hk7' : Keeps Nil wr w7 := (Keeps.refl Nil wr).drew.trans hk7
            refine (fun hHeld => hK _ _ hHeld ?_) (⟨hk7'.cell hcn (fun h => h), hk7'.cell hcx (fun h => h), fun j v hv => hk7'.cell (hr0 j v hv) (fun h => h), fun j v hv => hk7'.cell (hr1 j v hv) (fun h => h)⟩)
            clear hK
            try simp only [Act.put, List.setIfInBounds_toArray, List.set_cons_zero, List.set_cons_succ]
            refine takeL (i := 32) (v := _) rfl (by kernel_rfl) (by kernel_rfl) (by kernel_rfl) (fun _ _ _ h => h) (Or.inl ⟨by rfl, by intro w hSw; (try dsimp only at hSw); go_simp; try with_reducible rfl⟩) (by assumption) ?_
            try simp only [Act.put, List.setIfInBounds_toArray, List.set_cons_zero, List.set_cons_succ]
            refine takeL (i := 33) (v := _) rfl (by kernel_rfl) (by kernel_rfl) (by kernel_rfl) (fun _ _ _ h => h) (Or.inl ⟨by rfl, by intro w hSw; (try dsimp only at hSw); go_simp; try with_reducible rfl⟩) (by assumption) ?_
            try simp only [Act.put, List.setIfInBounds_toArray, List.set_cons_zero, List.set_cons_succ]
            refine wpAnyH_done (by kernel_rfl) ?_ _
            have hK7 := hkr.out.trans hk7'
            have HK7 := Lib.hid hK7
            clear hK7 hk7 hk7' HK hr0 hr1 hcn hcx hHeld hq1 hq2 hxm hbk
            go_wp2_with fail
            go_roundw
            case rel => first | exact ⟨k + 1, by omega, by go_num, HK7⟩ | ((repeat apply Exists.intro); exact ⟨⟨k + 1, by omega, by go_num, HK7⟩, rfl⟩)
            case measure => simp [intOf]; omega
          · obtain rfl : k = W.length := by omega
            have hno : placeE (W.map entO) (key1 2) 3 = -1 := by
              rcases place_lt (W.map entO) (key1 2) 3 with h | ⟨i, _, hi, e, he, hq⟩
              · exact h
              · exfalso
                obtain ⟨x, _, rfl⟩ := List.mem_map.1 (List.mem_of_getElem? he)
                unfold isE entO at hq
                simp [key1] at hq
            have hnh : hasE (W.map entO) (key1 2) 3 = false := by simp [hasE, hno]
            have hnk : findKey (W.map entO) (key1 2) 3 = zeroKey := by simp [findKey, hno]
            have HN := Lib.hid (And.intro hnh hnk)
            have hSr := hSk.keep0 hkr.out
            have hKr := hK6.trans hkr.out
            clear hno hnh hnk hSk hK6 hown6 hOk
            obtain ⟨zc, hzv, hzl⟩ : ∃ zc : List Value, (∀ w, (zeroValue 37).run Try.prog w = .ok (.agg zc.toArray) w) ∧ zc.length = 32 := ⟨List.replicate 32 (.int .u8 0), fun w => by kernel_rfl, rfl⟩
            have HZ := Lib.hid hzl
            clear hzl
            go_wp2_with (refine wpl_buildC rfl 37 0 _ rfl _ (Try.builtKey1 _) ?_)
            refine (find_walk hSr (key1 2) 3 rfl (key1_bytes 2 (by omega) (by omega))).mono ?_
            rintro e w8 ⟨rfl, hk8⟩
            rw [HN.out.1, HN.out.2]
            have hK8 := hKr.trans hk8
            go_wp2_with (refine wpl_store rfl 37 _ _ rfl w8.heap.size rfl (byteV zeroKey) rfl (Blk.new w8 zc _) (by rw [HZ.out]; rfl) Try.infoKey oneCell_byteV ?_)
            intro w9 hb9 hk9 hs9
            have hK9 := hK8.step (((Keeps.refl Nil w8).alloc _).step hk9 (fun i hi => .inr (by rw [show i = w8.heap.size from hi]; exact Nat.le_refl _))) (fun _ h => h.elim)
            go_wp2_with fail
            go_ret
            exact ⟨rfl, hK9⟩
end Go.Proofs.Ytokminiendnhoaa
