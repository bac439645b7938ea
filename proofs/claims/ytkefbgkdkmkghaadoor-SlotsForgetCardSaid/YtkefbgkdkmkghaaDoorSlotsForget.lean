/-
  SlotsForget: nothing of what was saved ahead is on the disk any more.
-/
import Derived.Test.YtkefbgkdkmkghaaDoorSlotsAside
namespace Go.Proofs.YtkefbgkdkmkghaaDoor
set_option linter.unusedSimpArgs false
set_option linter.unusedVariables false
open Go.RowKit

/-- The state behind j saves of such lengths. -/
def svN (l : List Int) (j : Nat) : Sv := ((l.take j).map fun x => (x % 800).toNat).foldl nextSv ⟨0, 0, 0⟩
theorem svN_succ {l : List Int} {j : Nat} (h : j < l.length) : svN l (j + 1) = nextSv (svN l j) (l.getD j 0 % 800).toNat := by
  unfold svN
  rw [List.take_succ_eq_append_getElem h, List.map_append, List.foldl_append]
  simp [List.getD, h]
theorem svN_seq (l : List Int) : ∀ j, j ≤ l.length → (svN l j).seq = j
  | 0, _ => rfl
  | j + 1, h => by
    rw [svN_succ (by omega)]
    show (svN l j).seq + 1 = j + 1
    rw [svN_seq l j (by omega)]
/-- An image that a run leaves. -/
def ImgV (w : World) (gi : Nat) (S : Sv) (c : List Int) (v : Value) : Prop := ∃ a cap D, v = .slice a (Dk.image D).length cap ∧ Row .u8 w a D.image.length D.image ∧ (∀ x, blkOf a x → x ≠ gi) ∧ Clean 15 S c D ∧ AreB D.image
theorem ImgV.keep {w w' : World} {gi : Nat} {S : Sv} {c : List Int} {v : Value} (h : ImgV w gi S c v) (hk : Keeps (One gi) w w') : ImgV w' gi S c v := by
  obtain ⟨a, cap, D, he, hr, hn, hc, hb⟩ := h
  exact ⟨a, cap, D, he, hr.keepN hk (fun h0 x hx hh => hn x hx hh), hn, hc, hb⟩
set_option maxRecDepth 100000 in
set_option maxHeartbeats 6400000 in
theorem slotsForget_walk (a0 : Option Addr) (len0 cap0 : Nat) (z0 : List Int) (xa xb xl xf : Int) (a5 : Option Addr) (len5 cap5 : Nat) (z5 : List Int) (w : World) {p : Nat → Addr} (w0 : IsRow .i64 w a0 len0 cap0 z0) (wf1 : (Lit.int .i64 xa).wf = true) (wf2 : (Lit.int .i64 xb).wf = true) (wf3 : (Lit.int .i64 xl).wf = true) (wf4 : (Lit.int .i64 xf).wf = true) (w5 : IsRow .i64 w a5 len5 cap5 z5) (hE : ErrS w p) :
    Calls Tryd.prog 11 #[.slice a0 len0 cap0, .int .i64 xa, .int .i64 xb, .int .i64 xl, .int .i64 xf, .slice a5 len5 cap5] w fun e w' => e = .returned (.bool true) ∧ Keeps Nil w w' := by
  have HE := Lib.hid hE
  have HFI := Lib.hid (slotsfirst_walk hE)
  have hr0 := Row.of_isRow w0
  have hr5 := Row.of_isRow w5
  have hcap5 : len5 ≤ cap5 ∧ cap5 ≤ 9223372036854775807 := by
    rcases w5 with ⟨_, rfl, rfl, _⟩ | ⟨x, _, h1, h2, _⟩
    · omega
    · unfold maxLen at h2; omega
  generalize z0.take len0 = l0 at *
  generalize z5.take len5 = ks at *
  have h3 := i64_wf wf3
  have h4 := i64_wf wf4
  obtain ⟨la, hla⟩ : ∃ q : Nat, xl % 800 = (q : Int) := ⟨(xl % 800).toNat, by omega⟩
  obtain ⟨fu, hfu⟩ : ∃ q : Nat, xf % 40 = (q : Int) := ⟨(xf % 40).toNat, by omega⟩
  have hlab : la ≤ 799 := by omega
  have hfub : fu ≤ 39 := by omega
  have hn3 := fun w' => number_walk xl 800 w' h3.1 h3.2 (by omega) (by omega)
  have hn4 := fun w' => number_walk xf 40 w' h4.1 h4.2 (by omega) (by omega)
  rw [hla] at hn3
  rw [hfu] at hn4
  have HN3 := Lib.hid hn3
  have HN4 := Lib.hid hn4
  have HR0 := Lib.hid hr0
  have HR5 := Lib.hid hr5
  have HC5 := Lib.hid hcap5
  have hnw := fun w => new_walk w 15
  rw [show newN 15 = 15 by decide] at hnw
  have HNW := Lib.hid hnw
  have HNO : Hid (errO p none = .nilIface) := Lib.hid rfl
  clear hE hnw w0 w5 hr0 hr5 hcap5 h3 h4 hla hfu hn3 hn4 wf1 wf2 wf3 wf4
  go_enter Tryd.func11, Tryd.ntmps11
  go_wp2_with fail
  refine HFI.out.mono ?_
  rintro e w1 ⟨rfl, hk1⟩
  have HK1 := Lib.hid hk1
  clear HFI hk1
  by_cases hb1 : 10 < len0
  · have hbi : (10 : Int) < len0 := by omega
    go_wp2_with fail
    go_ret
    exact ⟨rfl, HK1.out⟩
  · have hbi : ¬ (10 : Int) < len0 := by omega
    by_cases hb3 : 40 < len5
    · have hbl : (40 : Int) < len5 := by omega
      go_wp2_with fail
      go_ret
      exact ⟨rfl, HK1.out⟩
    · have hbl : ¬ (40 : Int) < len5 := by omega
      go_upto_region 7 with fail
      have hbA : Blk (w1.alloc (.cells #[.slice none 0 0, .slice none 0 0] 68)) w1.heap.size [.slice none 0 0, .slice none 0 0] 68 := Blk.new w1 [.slice none 0 0, .slice none 0 0] 68
      have hkA : Keeps Nil w1 (w1.alloc (.cells #[.slice none 0 0, .slice none 0 0] 68)) := (Keeps.refl _ _).alloc _
      generalize w1.alloc (.cells #[.slice none 0 0, .slice none 0 0] 68) = w2 at *
      obtain ⟨gi, hgi⟩ : ∃ x, w1.heap.size = x := ⟨_, rfl⟩
      have hgif : w1.heap.size ≤ gi := by omega
      rw [hgi] at hbA ⊢
      have HBA := Lib.hid hbA
      have HKA := Lib.hid hkA
      clear hgi hbA hkA
      have hfl := fun w => file_walk 7 la w (by omega)
      obtain ⟨B, hB⟩ : ∃ B, B = fileL 7 la := ⟨_, rfl⟩
      have hbl : B.length = la := by rw [hB]; exact fileL_len _ _
      have hbb : AreB B := by rw [hB]; exact fileL_bytes _ _
      rw [← hB] at hfl
      have HF7 := Lib.hid hfl
      have HL7 := Lib.hid hbl
      have HB7 := Lib.hid hbb
      clear hfl hB hbl hbb
      obtain ⟨CH, hCH⟩ : ∃ x, x = chose (fu : Int) (takesN la) ks := ⟨_, rfl⟩
      obtain ⟨SE, hSE⟩ : ∃ x, x = if CH then nextSv (svN l0 len0) la else svN l0 len0 := ⟨_, rfl⟩
      have HCH := Lib.hid (And.intro hCH hSE)
      clear hCH hSE
      go_wp2_with fail
      refine (HN3.out w2).mono ?_
      rintro e w3 ⟨rfl, rfl⟩
      go_wp2_with fail
      refine (HN4.out w2).mono ?_
      rintro e w3 ⟨rfl, rfl⟩
      clear HN3 HN4
      go_wp2_with fail
      go_loopw [15, 16, 17, 18, 19, 20, 21, 22, 23, 24] (fun x _ _ _ _ _ _ _ _ _ wr => ∃ (k : Nat) (v0 v1 : Value), x = .int .i64 k ∧ k ≤ 2 ∧ Hid (Blk wr gi [v0, v1] 68) ∧ Hid (Keeps (One gi) w2 wr) ∧ Hid (1 ≤ k → ImgV wr gi SE B v0) ∧ Hid (2 ≤ k → ImgV wr gi SE B v1)) (fun x _ _ _ _ _ _ _ _ _ _ => 2 - (intOf x).toNat)
      case atStart => exact ⟨0, _, _, rfl, Nat.zero_le _, HBA, Lib.hid (Keeps.refl _ _), Lib.hid (fun h => absurd h (by omega)), Lib.hid (fun h => absurd h (by omega))⟩
      case round =>
        obtain ⟨k, v0, v1, rfl, hk2, hBk, hKr, hI0, hI1⟩ := hrel
        obtain ⟨wo, hwo⟩ : ∃ x, x = wr := ⟨_, rfl⟩
        subst hwo
        by_cases hk : k < 2
        · have hki : (k : Int) < 2 := by omega
          have HWR := Lib.hid (show Keeps Nil w wo from HK1.out.trans (HKA.out.step hKr.out (fun i hi => .inr (by rw [show i = gi from hi]; exact hgif))))
          have HEW := Lib.hid (HE.out.keep HWR.out)
          have hsl : Hid ((svN l0 len0).seq < 4294967295) := Lib.hid (by rw [svN_seq l0 len0 (by have := HR0.out.llen; omega)]; omega)
          have HS0 := Lib.hid (HR0.out.keep HWR.out)
          have HS5 := Lib.hid (HR5.out.keep HWR.out)
          have hbk0 : k = 0 ∨ k = 1 := by omega
          go_wp2_with fail
          refine (HNW.out wo).mono ?_
          rintro e w3 hN
          obtain ⟨pp, R, rfl, hMi⟩ := hN.mine
          have HO := Lib.hid (open_new HEW.out hMi (by omega) (by omega))
          clear hN hMi
          go_wp2_with fail
          refine HO.out.mono ?_
          rintro e w4 ⟨g, R4, rfl, hS4, _, _⟩
          have HS4 := Lib.hid hS4
          have HL4 : Hid (((Dk.new 15).cleaned ⟨0, 0, 0⟩).left = -1) := Lib.hid (cleaned_left _ _).1
          generalize (Dk.new 15).cleaned ⟨0, 0, 0⟩ = d4 at *
          clear hS4 HO
          go_wp2_with fail
          go_loopw [19] (fun x wi => ∃ (j : Nat) (R' : Roles) (d : Dk) (c : List Int), x = .int .i64 j ∧ j ≤ len0 ∧ Hid (St wo wi pp g R' 15 (svN l0 j) c d) ∧ Hid (d.left = -1)) (fun x _ => len0 - (intOf x).toNat)
          case atStart => exact ⟨0, R4, d4, [], rfl, Nat.zero_le _, HS4, HL4⟩
          case round =>
            obtain ⟨j, R', d, c, rfl, hj, hSt, hLe⟩ := hrel
            by_cases hjl : j < len0
            · have hji : (j : Int) < len0 := by omega
              have hr0 := HS0.out.keep hSt.out.mine.keeps
              obtain ⟨ba, oa, e0, hba, hc0⟩ := HS0.out.cell (show 0 < len0 by omega)
              obtain ⟨ba', oa', e0', hba', hc0'⟩ := hr0.cell (show 0 < len0 by omega)
              subst e0
              cases e0'
              have c0 := hc0' j hjl
              have hx0 := i64_wf (hr0.wf (l0.getD j 0) (by have := hr0.llen; simp [List.getD, show j < l0.length by omega]))
              obtain ⟨m, hm⟩ : ∃ m : Nat, l0.getD j 0 % 800 = (m : Int) := ⟨(l0.getD j 0 % 800).toNat, by omega⟩
              have hsvm : nextSv (svN l0 j) m = svN l0 (j + 1) := by
                rw [svN_succ (by have := hr0.llen; omega), hm]
                rfl
              have hm800 : m ≤ 799 := by omega
              have hsq : (svN l0 j).seq = j := svN_seq l0 j (by have := hr0.llen; omega)
              generalize l0.getD j 0 = X at *
              have hn0 := fun w' => number_walk X 800 w' hx0.1 hx0.2 (by omega) (by omega)
              rw [hm] at hn0
              have HN0 := Lib.hid hn0
              obtain ⟨AB, hAB⟩ : ∃ AB : Int, [Value.int .i64 xa, Value.int .i64 xb][k]? = some (.int .i64 AB) := by
                rcases hbk0 with rfl | rfl
                · exact ⟨xa, rfl⟩
                · exact ⟨xb, rfl⟩
              have HAB := Lib.hid hAB
              obtain ⟨NN, hNN⟩ : ∃ NN, IntKind.i64.wrap (AB + (j : Int)) = NN := ⟨_, rfl⟩
              have hfl := fun w => file_walk NN m w (by omega)
              obtain ⟨B, hB⟩ : ∃ B, B = fileL NN m := ⟨_, rfl⟩
              have hbl : B.length = m := by rw [hB]; exact fileL_len _ _
              have hbb : AreB B := by rw [hB]; exact fileL_bytes _ _
              rw [← hB] at hfl
              have HFL := Lib.hid hfl
              have HBL := Lib.hid hbl
              have HBB := Lib.hid hbb
              have HSN := Lib.hid hsvm
              have HSQ := Lib.hid (show (svN l0 j).seq < 4294967295 by omega)
              have hgba : ba ≠ g := by have := hSt.out.gw; omega
              have hRba : R' ba = 0 := by
                rcases Nat.eq_zero_or_pos (R' ba) with h1 | h1
                · exact h1
                · have := hSt.out.mine.far ba (by omega); omega
              clear hm hx0 hn0 hAB hfl hB hbl hbb hsvm hsq hc0 hc0' hba hba' hr0
              generalize svN l0 j = SV at *
              go_upto_region 21 with fail
              refine wp_region_held_drew (S := fun w' => w'.cell? ⟨ba, oa + j, none⟩ = some (.int .i64 X)) (by kernel_rfl) (by exact c0) (fun hHeld => ?_)
              have HST := Lib.hid (hSt.out.nil (Keeps.refl Nil wr).drew)
              replace c0 := (Keeps.refl Nil wr).drew.cell c0 (fun h => h)
              have hKw : Keeps Nil wr.drew wr.drew := Keeps.refl _ _
              clear hSt hHeld
              generalize wr.drew = v0 at *
              refine takeL (i := 0) (v := _) rfl (by kernel_rfl) (by kernel_rfl) (by kernel_rfl) (fun _ _ _ h => h) (Or.inl ⟨by rfl, by intro w hSw; (try dsimp only at hSw); go_simp; try with_reducible rfl⟩) (by assumption) ?_
              try simp only [Act.put, List.setIfInBounds_toArray, List.set_cons_zero, List.set_cons_succ]
              refine takeL (i := 1) (v := _) rfl (by kernel_rfl) (by kernel_rfl) (by kernel_rfl) (fun _ _ _ h => h) (Or.inl ⟨by rfl, by intro w hSw; (try dsimp only at hSw); go_simp; try with_reducible rfl⟩) (by assumption) ?_
              try simp only [Act.put, List.setIfInBounds_toArray, List.set_cons_zero, List.set_cons_succ]
              refine takeL (i := 2) (v := _) rfl (by kernel_rfl) (by kernel_rfl) (by kernel_rfl) (fun _ _ _ h => h) (Or.inl ⟨by rfl, by intro w hSw; (try dsimp only at hSw); go_simp; try with_reducible rfl⟩) (by assumption) ?_
              try simp only [Act.put, List.setIfInBounds_toArray, List.set_cons_zero, List.set_cons_succ]
              refine takeL (i := 4) (v := _) rfl (by kernel_rfl) (by kernel_rfl) (by kernel_rfl) (fun _ _ _ h => h) (Or.inl ⟨by rfl, by intro w hSw; (try dsimp only at hSw); go_simp; try with_reducible rfl⟩) (by assumption) ?_
              try simp only [Act.put, List.setIfInBounds_toArray, List.set_cons_zero, List.set_cons_succ]
              refine takeL (i := 7) (v := _) rfl (by kernel_rfl) (by kernel_rfl) (by kernel_rfl) (fun _ _ _ h => h) (Or.inl ⟨by rfl, by intro w hSw; (try dsimp only at hSw); go_simp; try with_reducible rfl⟩) (by assumption) ?_
              try simp only [Act.put, List.setIfInBounds_toArray, List.set_cons_zero, List.set_cons_succ]
              refine takeL (i := 9) (v := _) rfl (by kernel_rfl) (by kernel_rfl) (by kernel_rfl) (fun _ _ _ h => h) (Or.inl ⟨by rfl, by intro w hSw; (try dsimp only at hSw); go_simp; try with_reducible rfl⟩) (by assumption) ?_
              try simp only [Act.put, List.setIfInBounds_toArray, List.set_cons_zero, List.set_cons_succ]
              refine takeL (i := 10) (v := _) rfl (by kernel_rfl) (by kernel_rfl) (by kernel_rfl) (fun _ _ _ h => h) (Or.inl ⟨by rfl, by intro w hSw; (try dsimp only at hSw); go_simp; try with_reducible rfl⟩) (by assumption) ?_
              try simp only [Act.put, List.setIfInBounds_toArray, List.set_cons_zero, List.set_cons_succ]
              refine takeL (i := 11) (v := _) rfl (by kernel_rfl) (by kernel_rfl) (by kernel_rfl) (fun _ _ _ h => h) (Or.inl ⟨by rfl, by intro w hSw; (try dsimp only at hSw); go_simp; try with_reducible rfl⟩) (by assumption) ?_
              try simp only [Act.put, List.setIfInBounds_toArray, List.set_cons_zero, List.set_cons_succ]
              refine takeL (i := 12) (v := _) rfl (by kernel_rfl) (by kernel_rfl) (by kernel_rfl) (fun _ _ _ h => h) (Or.inl ⟨by rfl, by intro w hSw; (try dsimp only at hSw); go_simp; try with_reducible rfl⟩) (by assumption) ?_
              try simp only [Act.put, List.setIfInBounds_toArray, List.set_cons_zero, List.set_cons_succ]
              refine bothL (i := 3) (j := 13) rfl rfl (by kernel_rfl) (fun K hK => ?_) (fun K hK => ?_)
              · skip
                refine step_bsK rfl 37 3 2 _ rfl [.int .i64 xa, .int .i64 xb] Tryd.underlying37 Tryd.bsInt rfl (by decide) (by decide) (by simp [Act.eval]) (by simp [Value.cells]) ?_
                intro g3 w3 hg3 hb3 qk
                clear hg3
                refine (fun hHeld => hK _ _ hHeld ?_) (((hKw.trans qk).cell c0 (fun h => h)))
                clear hK
                try simp only [Act.put, List.setIfInBounds_toArray, List.set_cons_zero, List.set_cons_succ]
                refine takeL (i := 5) (v := _) rfl (by kernel_rfl) (by kernel_rfl) (by kernel_rfl) (fun _ _ _ h => h) (Or.inl ⟨by rfl, by intro w hSw; (try dsimp only at hSw); go_simp; try with_reducible rfl⟩) (by assumption) ?_
                try simp only [Act.put, List.setIfInBounds_toArray, List.set_cons_zero, List.set_cons_succ]
                replace hKw := hKw.trans qk
                refine bothL (i := 6) (j := 13) rfl rfl (by kernel_rfl) (fun K hK => ?_) (fun K hK => ?_)
                · skip
                  have t6 := hb3.cell k HAB.out
                  go_simp
                  clear t6
                  refine (fun hHeld => hK _ _ hHeld ?_) ((hKw.cell c0 (fun h => h)))
                  clear hK
                  try simp only [Act.put, List.setIfInBounds_toArray, List.set_cons_zero, List.set_cons_succ]
                  refine takeL (i := 8) (v := _) rfl (by kernel_rfl) (by kernel_rfl) (by kernel_rfl) (fun _ _ _ h => h) (Or.inl ⟨by rfl, by intro w hSw; (try dsimp only at hSw); go_simp; try with_reducible rfl⟩) (by assumption) ?_
                  try simp only [Act.put, List.setIfInBounds_toArray, List.set_cons_zero, List.set_cons_succ]
                  refine onlyL (i := 13) rfl (by kernel_rfl) (fun K hK => ?_)
                  go_simp
                  refine (HN0.out _).mono ?_
                  rintro e w13 ⟨rfl, rfl⟩
                  refine (fun hHeld => hK _ _ hHeld ?_) ((hKw.cell c0 (fun h => h)))
                  clear hK
                  try simp only [Act.put, List.setIfInBounds_toArray, List.set_cons_zero, List.set_cons_succ]
                  refine onlyL (i := 14) rfl (by kernel_rfl) (fun K hK => ?_)
                  go_simp
                  refine (HFL.out _).mono ?_
                  rintro e w14 ⟨af, cf, rfl, hof, qk, hff⟩
                  rw [HBL.out] at hof ⊢
                  have hcf := hof.2.1
                  have hcx := hof.2.2.1
                  unfold maxLen at hcx
                  have hff0 : ∀ x, blkOf af x → R' x = 0 := fun x hx => HST.out.mine.later (by have := hff x hx; have := hKw.size; omega)
                  refine (fun hHeld => hK _ _ hHeld ?_) (((hKw.trans qk).cell c0 (fun h => h)))
                  clear hK
                  try simp only [Act.put, List.setIfInBounds_toArray, List.set_cons_zero, List.set_cons_succ]
                  replace hKw := hKw.trans qk
                  refine onlyL (i := 15) rfl (by kernel_rfl) (fun K hK => ?_)
                  go_simp
                  refine (save_free HEW.out (HST.out.nil hKw) hLe.out (cb := cf) (hof.row (areB_wf HBB.out)) hcf (by omega) (fun _ x hx => hff0 x hx) (by omega) HSQ.out).mono ?_
                  rintro e w15 ⟨R15, D15, rfl, hS15, hL15, hk15, _⟩
                  refine (fun hHeld => hK _ _ hHeld ?_) ((hk15.cell (hKw.cell c0 (fun h => h)) (fun h => h.elim (wr_not hRba) hgba)))
                  clear hK
                  try simp only [Act.put, List.setIfInBounds_toArray, List.set_cons_zero, List.set_cons_succ]
                  refine takeL (i := 16) (v := _) rfl (by kernel_rfl) (by kernel_rfl) (by kernel_rfl) (fun _ _ _ h => h) (Or.inl ⟨by rfl, by intro w hSw; (try dsimp only at hSw); go_simp; try with_reducible rfl⟩) (by assumption) ?_
                  try simp only [Act.put, List.setIfInBounds_toArray, List.set_cons_zero, List.set_cons_succ]
                  refine wpAnyH_done (by kernel_rfl) ?_ _
                  rw [HBL.out, HSN.out] at hS15
                  have HS15 := Lib.hid hS15
                  have HL15 := Lib.hid hL15
                  clear hS15 hL15 hk15 hof hff0 hff hKw c0 HST
                  go_wp2_with fail
                  go_roundw
                  case rel => exact ⟨j + 1, R15, D15, B, by go_num, by omega, HS15, HL15⟩
                  case measure => first | (simp [intOf]; done) | (simp [intOf]; omega)
                · skip
                  go_simp
                  refine (HN0.out _).mono ?_
                  rintro e w13 ⟨rfl, rfl⟩
                  refine (fun hHeld => hK _ _ hHeld ?_) ((hKw.cell c0 (fun h => h)))
                  clear hK
                  try simp only [Act.put, List.setIfInBounds_toArray, List.set_cons_zero, List.set_cons_succ]
                  refine onlyL (i := 6) rfl (by kernel_rfl) (fun K hK => ?_)
                  have t6 := hb3.cell k HAB.out
                  go_simp
                  clear t6
                  refine (fun hHeld => hK _ _ hHeld ?_) ((hKw.cell c0 (fun h => h)))
                  clear hK
                  try simp only [Act.put, List.setIfInBounds_toArray, List.set_cons_zero, List.set_cons_succ]
                  refine takeL (i := 8) (v := _) rfl (by kernel_rfl) (by kernel_rfl) (by kernel_rfl) (fun _ _ _ h => h) (Or.inl ⟨by rfl, by intro w hSw; (try dsimp only at hSw); go_simp; try with_reducible rfl⟩) (by assumption) ?_
                  try simp only [Act.put, List.setIfInBounds_toArray, List.set_cons_zero, List.set_cons_succ]
                  refine onlyL (i := 14) rfl (by kernel_rfl) (fun K hK => ?_)
                  go_simp
                  refine (HFL.out _).mono ?_
                  rintro e w14 ⟨af, cf, rfl, hof, qk, hff⟩
                  rw [HBL.out] at hof ⊢
                  have hcf := hof.2.1
                  have hcx := hof.2.2.1
                  unfold maxLen at hcx
                  have hff0 : ∀ x, blkOf af x → R' x = 0 := fun x hx => HST.out.mine.later (by have := hff x hx; have := hKw.size; omega)
                  refine (fun hHeld => hK _ _ hHeld ?_) (((hKw.trans qk).cell c0 (fun h => h)))
                  clear hK
                  try simp only [Act.put, List.setIfInBounds_toArray, List.set_cons_zero, List.set_cons_succ]
                  replace hKw := hKw.trans qk
                  refine onlyL (i := 15) rfl (by kernel_rfl) (fun K hK => ?_)
                  go_simp
                  refine (save_free HEW.out (HST.out.nil hKw) hLe.out (cb := cf) (hof.row (areB_wf HBB.out)) hcf (by omega) (fun _ x hx => hff0 x hx) (by omega) HSQ.out).mono ?_
                  rintro e w15 ⟨R15, D15, rfl, hS15, hL15, hk15, _⟩
                  refine (fun hHeld => hK _ _ hHeld ?_) ((hk15.cell (hKw.cell c0 (fun h => h)) (fun h => h.elim (wr_not hRba) hgba)))
                  clear hK
                  try simp only [Act.put, List.setIfInBounds_toArray, List.set_cons_zero, List.set_cons_succ]
                  refine takeL (i := 16) (v := _) rfl (by kernel_rfl) (by kernel_rfl) (by kernel_rfl) (fun _ _ _ h => h) (Or.inl ⟨by rfl, by intro w hSw; (try dsimp only at hSw); go_simp; try with_reducible rfl⟩) (by assumption) ?_
                  try simp only [Act.put, List.setIfInBounds_toArray, List.set_cons_zero, List.set_cons_succ]
                  refine wpAnyH_done (by kernel_rfl) ?_ _
                  rw [HBL.out, HSN.out] at hS15
                  have HS15 := Lib.hid hS15
                  have HL15 := Lib.hid hL15
                  clear hS15 hL15 hk15 hof hff0 hff hKw c0 HST
                  go_wp2_with fail
                  go_roundw
                  case rel => exact ⟨j + 1, R15, D15, B, by go_num, by omega, HS15, HL15⟩
                  case measure => first | (simp [intOf]; done) | (simp [intOf]; omega)
              · skip
                go_simp
                refine (HN0.out _).mono ?_
                rintro e w13 ⟨rfl, rfl⟩
                refine (fun hHeld => hK _ _ hHeld ?_) ((hKw.cell c0 (fun h => h)))
                clear hK
                try simp only [Act.put, List.setIfInBounds_toArray, List.set_cons_zero, List.set_cons_succ]
                refine onlyL (i := 3) rfl (by kernel_rfl) (fun K hK => ?_)
                refine step_bsK rfl 37 3 2 _ rfl [.int .i64 xa, .int .i64 xb] Tryd.underlying37 Tryd.bsInt rfl (by decide) (by decide) (by simp [Act.eval]) (by simp [Value.cells]) ?_
                intro g3 w3 hg3 hb3 qk
                clear hg3
                refine (fun hHeld => hK _ _ hHeld ?_) (((hKw.trans qk).cell c0 (fun h => h)))
                clear hK
                try simp only [Act.put, List.setIfInBounds_toArray, List.set_cons_zero, List.set_cons_succ]
                refine takeL (i := 5) (v := _) rfl (by kernel_rfl) (by kernel_rfl) (by kernel_rfl) (fun _ _ _ h => h) (Or.inl ⟨by rfl, by intro w hSw; (try dsimp only at hSw); go_simp; try with_reducible rfl⟩) (by assumption) ?_
                try simp only [Act.put, List.setIfInBounds_toArray, List.set_cons_zero, List.set_cons_succ]
                replace hKw := hKw.trans qk
                refine onlyL (i := 6) rfl (by kernel_rfl) (fun K hK => ?_)
                have t6 := hb3.cell k HAB.out
                go_simp
                clear t6
                refine (fun hHeld => hK _ _ hHeld ?_) ((hKw.cell c0 (fun h => h)))
                clear hK
                try simp only [Act.put, List.setIfInBounds_toArray, List.set_cons_zero, List.set_cons_succ]
                refine takeL (i := 8) (v := _) rfl (by kernel_rfl) (by kernel_rfl) (by kernel_rfl) (fun _ _ _ h => h) (Or.inl ⟨by rfl, by intro w hSw; (try dsimp only at hSw); go_simp; try with_reducible rfl⟩) (by assumption) ?_
                try simp only [Act.put, List.setIfInBounds_toArray, List.set_cons_zero, List.set_cons_succ]
                refine onlyL (i := 14) rfl (by kernel_rfl) (fun K hK => ?_)
                go_simp
                refine (HFL.out _).mono ?_
                rintro e w14 ⟨af, cf, rfl, hof, qk, hff⟩
                rw [HBL.out] at hof ⊢
                have hcf := hof.2.1
                have hcx := hof.2.2.1
                unfold maxLen at hcx
                have hff0 : ∀ x, blkOf af x → R' x = 0 := fun x hx => HST.out.mine.later (by have := hff x hx; have := hKw.size; omega)
                refine (fun hHeld => hK _ _ hHeld ?_) (((hKw.trans qk).cell c0 (fun h => h)))
                clear hK
                try simp only [Act.put, List.setIfInBounds_toArray, List.set_cons_zero, List.set_cons_succ]
                replace hKw := hKw.trans qk
                refine onlyL (i := 15) rfl (by kernel_rfl) (fun K hK => ?_)
                go_simp
                refine (save_free HEW.out (HST.out.nil hKw) hLe.out (cb := cf) (hof.row (areB_wf HBB.out)) hcf (by omega) (fun _ x hx => hff0 x hx) (by omega) HSQ.out).mono ?_
                rintro e w15 ⟨R15, D15, rfl, hS15, hL15, hk15, _⟩
                refine (fun hHeld => hK _ _ hHeld ?_) ((hk15.cell (hKw.cell c0 (fun h => h)) (fun h => h.elim (wr_not hRba) hgba)))
                clear hK
                try simp only [Act.put, List.setIfInBounds_toArray, List.set_cons_zero, List.set_cons_succ]
                refine takeL (i := 16) (v := _) rfl (by kernel_rfl) (by kernel_rfl) (by kernel_rfl) (fun _ _ _ h => h) (Or.inl ⟨by rfl, by intro w hSw; (try dsimp only at hSw); go_simp; try with_reducible rfl⟩) (by assumption) ?_
                try simp only [Act.put, List.setIfInBounds_toArray, List.set_cons_zero, List.set_cons_succ]
                refine wpAnyH_done (by kernel_rfl) ?_ _
                rw [HBL.out, HSN.out] at hS15
                have HS15 := Lib.hid hS15
                have HL15 := Lib.hid hL15
                clear hS15 hL15 hk15 hof hff0 hff hKw c0 HST
                go_wp2_with fail
                go_roundw
                case rel => exact ⟨j + 1, R15, D15, B, by go_num, by omega, HS15, HL15⟩
                case measure => first | (simp [intOf]; done) | (simp [intOf]; omega)
            · obtain rfl : j = len0 := by omega
              have hji : ¬ (j : Int) < j := by omega
              go_wp2_with fail
              have HFU := Lib.hid (fuse_walk hSt.out.mine.is (fu : Int))
              refine HFU.out.mono ?_
              rintro e w5 ⟨rfl, hD5, hk5⟩
              have HT5 := Lib.hid (hSt.out.fuse (by omega) hD5 hk5)
              have HLF : Hid ((d.fuse (fu : Int)).left = (fu : Int)) := Lib.hid (by show max _ _ = _; omega)
              generalize d.fuse (fu : Int) = d5 at *
              clear hD5 hk5 HFU hSt hLe
              go_wp2_with fail
              refine (HF7.out w5).mono ?_
              rintro e w6 ⟨ab, cb, rfl, hob, hk6, hfb⟩
              rw [HL7.out] at hob ⊢
              have hcb := hob.2.1
              have hcx := hob.2.2.1
              unfold maxLen at hcx
              have HA6 : Hid (Aside w6 R' g ab la B) := Lib.hid ⟨hob.row (areB_wf HB7.out), fun _ x hx => ⟨HT5.out.mine.later (hfb x hx), by have := HT5.out.sl.lt; have := hfb x hx; omega⟩⟩
              have HT6 := Lib.hid (HT5.out.nil hk6)
              have HSV := Lib.hid (save_st HEW.out HT6.out HA6.out.row hcb (by omega) (fun h0 x hx => (HA6.out.away h0 x hx).1) (by omega) hsl.out)
              clear hob hk6 hfb hcb hcx HT5
              go_wp2_with fail
              refine HSV.out.mono ?_
              rintro e w7 ⟨R7, D7, s7, o, rfl, hSv, hM7, _, _, hok7, hk7, hR7⟩
              have HM7 := Lib.hid hM7
              have HOK7 := Lib.hid hok7
              obtain ⟨ch, hBk2⟩ := save_back hSv (by omega) ks
              have hch : ch = CH := by rw [hBk2.eq, HLF.out, HL7.out, HCH.out.1]
              have hdone := hBk2.done
              have herr := hBk2.err
              have hnr := hBk2.near
              have hon := hBk2.ones
              dsimp only at hdone herr hnr hon
              rw [hch, HL7.out, ← HCH.out.2] at hnr
              rw [hch] at hdone
              obtain ⟨C, hC⟩ : ∃ C, C = if CH then B else c := ⟨_, rfl⟩
              rw [← hC] at hnr
              have HST : Hid (IsState 15 SE C) := Lib.hid (by
                rw [hC, HCH.out.2]
                cases CH with
                | true =>
                  have := nx_state HT6.out.st HB7.out (by rw [HL7.out]; omega) hsl.out
                  rw [HL7.out] at this
                  exact this
                | false => exact HT6.out.st)
              have HCB : Hid (CH = true → sameL C B = true) := Lib.hid (fun h => by rw [hC, h, if_pos rfl]; exact sameL_eq.2 rfl)
              obtain ⟨V, hV⟩ : ∃ V, V = errO p o := ⟨_, rfl⟩
              have HV : Hid (CH = false → ∃ te xe, V = .iface te (.pointer (some xe))) := Lib.hid (fun h => by
                rcases herr with h1 | h1
                · rw [hdone h1] at h; cases h
                · rw [hV, h1]; exact errV_ne p 0)
              rw [← hV]
              have HNR := Lib.hid hnr
              have HON := Lib.hid hon
              have HCR := Lib.hid (crash_walk hM7.is hok7 (by omega) (HS5.out.keep hM7.keeps) HC5.out.1 HC5.out.2 (fun h0 => old_zero hM7 HS5.out h0))
              clear hSv hM7 hok7 hk7 hR7 hBk2 hch hdone herr hnr hon hC hV HSV HT6 HA6 HLF
              go_wp2_with fail
              refine HCR.out.mono ?_
              rintro e w8 ⟨rfl, hD8, hk8⟩
              have HM8 := Lib.hid (HM7.out.wrote hD8 hk8)
              have HOP := Lib.hid (open_st HEW.out HM8.out HNR.out HON.out HST.out (HOK7.out.crash ks (by omega)) rfl rfl (by omega) (by omega))
              generalize (D7.crash ks).cleaned SE = d9 at *
              clear hD8 hk8 HCR HM7 HNR HON HOK7
              go_wp2_with fail
              refine HOP.out.mono ?_
              rintro e w9 ⟨g9, R9, rfl, hS9, _, _⟩
              have HT9 := Lib.hid hS9
              have HLD := Lib.hid (load_st HEW.out.e2 hS9)
              clear hS9 HOP HM8
              go_wp2_with fail
              refine HLD.out.mono ?_
              rintro e w10 ⟨al, cl, rfl, hol, hk10, _⟩
              obtain ⟨nc, hnc⟩ : ∃ x, x = C.length := ⟨_, rfl⟩
              rw [← hnc] at hol ⊢
              have HCA := Lib.hid (hol.row (areB_wf HST.out.bytes))
              have HT10 := Lib.hid (HT9.out.nil hk10)
              clear hnc hol hk10 HLD HT9
              go_wp2_with fail
              refine (HF7.out w10).mono ?_
              rintro e w11 ⟨ab2, cb2, rfl, hob, hk11, _⟩
              rw [HL7.out] at hob ⊢
              have HT11 := Lib.hid (HT10.out.nil hk11)
              have HSW := Lib.hid (sameBytes_walk (ca := cl) (cb := cb2) (HCA.out.keep hk11) (hob.row (areB_wf HB7.out)))
              clear hob hk11 HCA HT10
              go_wp2_with fail
              refine HSW.out.mono ?_
              rintro e w12 ⟨rfl, hd12⟩
              have HT12 := Lib.hid (HT11.out.nil (hd12.keeps _))
              clear hd12 HSW HT11
              cases hsm : sameL C B with
              | false =>
                have hcf : CH = false := by
                  cases hcc : CH with
                  | false => rfl
                  | true => rw [HCB.out hcc] at hsm; cases hsm
                obtain ⟨te, xe, rfl⟩ := HV.out hcf
                have HF := Lib.hid (HWR.out.trans HT12.out.mine.keeps)
                clear hsm hcf
                go_wp2_with fail
                go_ret
                exact ⟨rfl, HF.out⟩
              | true =>
                have hcb2 := sameL_eq.1 hsm
                subst hcb2
                have HI12 := Lib.hid (image_walk HT12.out.mine.is HT12.out.ok)
                clear hsm HCB HV
                go_wp2_with fail
                refine HI12.out.mono ?_
                rintro e w13 ⟨ai, ci, rfl, hoi, hk13, hfi⟩
                have hib := HT12.out.ok.image_bytes
                have hkk := HT12.out.mine.keeps.trans hk13
                have hb13 := hBk.out.keep0 hkk
                obtain ⟨old, hold⟩ : ∃ old, [v0, v1][k]? = some old := by
                  rcases hbk0 with rfl | rfl
                  · exact ⟨v0, rfl⟩
                  · exact ⟨v1, rfl⟩
                have hc13 := hb13.cell k hold
                have hz13 := hb13.frozen k
                have hri := hoi.row (areB_wf hib)
                obtain ⟨L, hL⟩ : ∃ L, L = d9.image.length := ⟨_, rfl⟩
                have hkz : Keeps (One gi) wo (w13.setCell ⟨gi, k, none⟩ (.slice ai L ci)) := hkk.nil.setOne _ _
                have hset := hb13.set k (.slice ai L ci)
                have hnew : ImgV (w13.setCell ⟨gi, k, none⟩ (.slice ai L ci)) gi SE C (.slice ai L ci) := by
                  have hlt := hBk.out.lt
                  have hsz := HT12.out.mine.keeps.size
                  have hno : ∀ x, blkOf ai x → x ≠ gi := fun x hx => by have := hfi x hx; omega
                  refine ⟨ai, ci, d9, by rw [hL], ?_, hno, HT12.out.clean, hib⟩
                  exact hri.keepN ((Keeps.refl _ _).setOne _ _) (fun h0 x hx hh => hno x hx hh)
                rw [← hL]
                have HNX : Hid (∃ v0' v1', Blk (w13.setCell ⟨gi, k, none⟩ (.slice ai L ci)) gi [v0', v1'] 68 ∧ (1 ≤ k + 1 → ImgV (w13.setCell ⟨gi, k, none⟩ (.slice ai L ci)) gi SE C v0') ∧ (2 ≤ k + 1 → ImgV (w13.setCell ⟨gi, k, none⟩ (.slice ai L ci)) gi SE C v1')) := Lib.hid (by
                  rcases hbk0 with rfl | rfl
                  · exact ⟨_, v1, hset, fun _ => hnew, fun h => absurd h (by omega)⟩
                  · exact ⟨v0, _, hset, fun _ => (hI0.out (by omega)).keep hkz, fun _ => hnew⟩)
                have HKZ := Lib.hid (hKr.out.trans hkz)
                clear hib hkk hb13 hold hri hL hkz hset hnew hoi hfi hk13 HI12 HT12
                go_wp2_with fail
                generalize w13.setCell ⟨gi, k, none⟩ (.slice ai L ci) = wz at *
                obtain ⟨u0, u1, hb, h0, h1⟩ := HNX.out
                have HX := Lib.hid hb
                have HY := Lib.hid h0
                have HZ := Lib.hid h1
                clear hb h0 h1 HNX
                go_roundw
                case rel => exact ⟨k + 1, u0, u1, by go_num, by omega, HX, HKZ, HY, HZ⟩
                case measure => first | (simp [intOf]; done) | (simp [intOf]; omega)
        · obtain rfl : k = 2 := by omega
          obtain ⟨aA, cA, dA, rfl, hrA, _, hcA, _⟩ := hI0.out (by omega)
          obtain ⟨aB, cB, dB, rfl, hrB, _, hcB, _⟩ := hI1.out (by omega)
          have hsb := sameBytes_walk (ca := cA) (cb := cB) hrA hrB
          rw [hcA.image hcB, sameL_eq.2 rfl] at hsb
          rw [hcA.image hcB] at hBk
          have HSB := Lib.hid hsb
          have b0 := hBk.out.cell 0 rfl
          have b1 := hBk.out.cell 1 rfl
          have HF := Lib.hid (show Keeps Nil w wo from HK1.out.trans (HKA.out.step hKr.out (fun i hi => .inr (by rw [show i = gi from hi]; exact hgif))))
          clear hrA hrB hcA hcB hsb hBk hKr hI0 hI1
          go_wp2_with fail
          refine HSB.out.mono ?_
          rintro e w9 ⟨rfl, hd9⟩
          have HF9 := Lib.hid (HF.out.trans (hd9.keeps _))
          clear hd9 HSB b0 b1
          go_wp2_with fail
          go_ret
          exact ⟨rfl, HF9.out⟩
end Go.Proofs.YtkefbgkdkmkghaaDoor
