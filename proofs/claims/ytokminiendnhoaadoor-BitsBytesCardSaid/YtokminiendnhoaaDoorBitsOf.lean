/-
  The walks of bits.Of and of the document's MapOf.
-/
import Derived.Test.YtokminiendnhoaaDoorBitsRef
import Derived.Test.YtokminiendnhoaaDoorSee
namespace Go.Proofs.YtokminiendnhoaaDoor
open Go.RowKit

def OfPost (w : World) (n : Nat) (bs : List Int) (e : Ending) (w' : World) : Prop :=
  ∃ g a cap, e = .returned (.tuple #[.pointer (some ⟨g, 0, none⟩), .nilIface]) ∧ IsMap w' g a cap n bs ∧ Keeps Nil w w' ∧ w.heap.size ≤ g ∧ (∀ k, blkOf a k → w.heap.size ≤ k)

theorem zeros_len (n : Nat) : (List.replicate (bytesOf n) (0 : Int)).length = bytesOf n := by simp

set_option maxHeartbeats 800000 in
theorem of_good {w : World} (i : Int) {a : Option Addr} {len cap : Nat} {bs : List Int} (h : Row .u8 w a len bs) (hnil : a = none → cap = 0 ∧ len = 0) (hl : bs.length = bytesOf (capN i)) (hc : Clean (capN i) bs) :
    Calls Tryd.prog 8 #[.int .i64 i, .slice a len cap] w (OfPost w (capN i) bs) := by
  have hlen := h.llen
  have hw : ∀ x ∈ bs, 0 ≤ x ∧ x < 256 := fun x hx => by have := u8_wf (h.wf x hx); omega
  have hci := (clean_iff hl hw).1 hc
  have hN := capN_le i
  have hb : len ≤ 140737488351232 := by rw [← hlen, hl]; unfold bytesOf; omega
  rw [hlen] at hci
  have hlN : len = bytesOf (capN i) := by omega
  go_enter Tryd.func8, Tryd.ntmps8
  go_wp2_with fail
  refine (new_walk i _).mono ?_
  rintro e w1 ⟨g, a1, c1, rfl, hm1, hk1, hg1, hf1⟩
  generalize hNN : capN i = n at *
  have d0 := hm1.cell0
  have d1 := hm1.cell1
  rw [zeros_len] at d1
  have e1 : ((len : Int) != ((bytesOf n : Nat) : Int)) = false := by rw [bne_eq_false_iff_eq]; omega
  have hrow := h.keep hk1
  have HX := Lib.hid (And.intro hNN (And.intro hl hlN))
  have HC := Lib.hid hc
  clear hNN hc h hlN hl
  by_cases h8 : n % 8 = 0
  · have e2 : decide ((0 : Int) < (n : Int) % 8) = false := by simp; omega
    clear hci
    go_wp2_with fail
    go_quiet (fail)
    rename_i nq
    go_wp2_with fail
    refine (cloneB_walk (hrow.keep ((Keeps.refl Nil w1).drewN _)) hnil hb).mono ?_
    rintro e w2 ⟨a2, c2, rfl, hown2, hk2, hf2⟩
    have hobj2 := (hm1.obj.drewN nq).keep0 hk2
    have f1 := hobj2.frozen 1
    have g1 := hobj2.cell 1 rfl
    rw [hlen] at hown2 ⊢
    rw [zeros_len] at g1
    have hlt2 := hobj2.lt
    have hltm := hm1.obj.lt
    clear d0 d1
    have HD := Lib.hid hown2
    clear hown2
    go_wp2_with fail
    go_ret2
    obtain ⟨hX1, hX2, hX3⟩ := HX.out
    have hne2 : ∀ k, blkOf a2 k → k ≠ g := fun k hk e => by have := hf2 k hk; have hs : w1.heap.size ≤ k := this; omega
    refine ⟨g, a2, c2, rfl, ⟨?_, ?_, fun hk => hne2 g hk rfl, hX1 ▸ hN, hX2, hw⟩, ?_, hg1, fun k hk => Nat.le_trans hk1.size (hf2 k hk)⟩
    · have := hobj2.set 1 (.slice a2 len c2)
      rw [hlen]
      exact this
    · rw [hlen]
      exact HD.out.keep ((Keeps.refl (One g) w2).setOne 1 _) (fun k hk e => hne2 k hk e)
    · exact ((hk1.drewN nq).trans hk2).setCell (p := ⟨g, 1, none⟩) (.inr hg1) _
  · have e2 : decide ((0 : Int) < (n : Int) % 8) = true := by simp; omega
    have hz := hci.resolve_left h8
    have hlpos : 0 < len := by rw [HX.out.2.2]; unfold bytesOf; omega
    obtain ⟨bb, off, rfl, hbb, hcc⟩ := hrow.cell hlpos
    have hcell := hcc (len - 1) (by omega)
    have e3 : ((bs.getD (len - 1) 0) / 2 ^ (n % 8) : Int) ≤ 0 := by rw [hz]; exact Int.le_refl _
    have hr := hw (bs.getD (len - 1) 0) (by simp [List.getD, show len - 1 < bs.length by omega])
    clear hci hcc hz
    have HR := Lib.hid hrow
    clear hrow
    generalize bs.getD (len - 1) 0 = x at *
    go_wp2_with fail
    go_quiet (fail)
    rename_i nq
    have hrow := HR.out
    go_wp2_with fail
    refine (cloneB_walk (hrow.keep ((Keeps.refl Nil w1).drewN _)) hnil hb).mono ?_
    rintro e w2 ⟨a2, c2, rfl, hown2, hk2, hf2⟩
    have hobj2 := (hm1.obj.drewN nq).keep0 hk2
    have f1 := hobj2.frozen 1
    have g1 := hobj2.cell 1 rfl
    rw [hlen] at hown2 ⊢
    rw [zeros_len] at g1
    have hlt2 := hobj2.lt
    have hltm := hm1.obj.lt
    clear d0 d1
    have HD := Lib.hid hown2
    clear hown2
    go_wp2_with fail
    go_ret2
    obtain ⟨hX1, hX2, hX3⟩ := HX.out
    have hne2 : ∀ k, blkOf a2 k → k ≠ g := fun k hk e => by have := hf2 k hk; have hs : w1.heap.size ≤ k := this; omega
    refine ⟨g, a2, c2, rfl, ⟨?_, ?_, fun hk => hne2 g hk rfl, hX1 ▸ hN, hX2, hw⟩, ?_, hg1, fun k hk => Nat.le_trans hk1.size (hf2 k hk)⟩
    · have := hobj2.set 1 (.slice a2 len c2)
      rw [hlen]
      exact this
    · rw [hlen]
      exact HD.out.keep ((Keeps.refl (One g) w2).setOne 1 _) (fun k hk e => hne2 k hk e)
    · exact ((hk1.drewN nq).trans hk2).setCell (p := ⟨g, 1, none⟩) (.inr hg1) _
set_option maxHeartbeats 800000 in
theorem of_bad {w : World} {p : Nat → Addr} (hE : Errs w p) (i : Int) {a : Option Addr} {len cap : Nat} {bs : List Int} (h : Row .u8 w a len bs) (hbad : ¬ (bs.length = bytesOf (capN i) ∧ Clean (capN i) bs)) :
    Calls Tryd.prog 8 #[.int .i64 i, .slice a len cap] w fun e w' => e = .returned (.tuple #[.pointer none, errV p 4]) ∧ Keeps Nil w w' := by
  have hlen := h.llen
  have hmost := h.most
  have hw : ∀ x ∈ bs, 0 ≤ x ∧ x < 256 := fun x hx => by have := u8_wf (h.wf x hx); omega
  have hN := capN_le i
  have hE1 := fun w' (hk : Keeps Nil w w') => (show w'.cell? ⟨0, 0, none⟩ = some (errV p 4) from (hE.keep hk).at_ 4 (by decide))
  have HE := Lib.hid hE1
  clear hE1
  go_enter Tryd.func8, Tryd.ntmps8
  go_wp2_with fail
  refine (new_walk i _).mono ?_
  rintro e w1 ⟨g, a1, c1, rfl, hm1, hk1, hg1, hf1⟩
  have hci := fun hl => clean_iff (n := capN i) (bs := bs) hl hw
  generalize capN i = n at *
  have d0 := hm1.cell0
  have d1 := hm1.cell1
  rw [zeros_len] at d1
  have ge := HE.out w1 hk1
  have hrow := h.keep hk1
  by_cases hlN : len = bytesOf n
  · have hnc : ¬ Clean n bs := fun hc => hbad ⟨by omega, hc⟩
    rw [hci (by omega)] at hnc
    have h8 : ¬ n % 8 = 0 := fun e => hnc (.inl e)
    have hz : ¬ bs.getD (bs.length - 1) 0 / 2 ^ (n % 8) = 0 := fun e => hnc (.inr e)
    rw [hlen] at hz
    have e1 : ((len : Int) != ((bytesOf n : Nat) : Int)) = false := by rw [bne_eq_false_iff_eq]; omega
    have e2 : decide ((0 : Int) < (n : Int) % 8) = true := by simp; omega
    have hlpos : 0 < len := by rw [hlN]; unfold bytesOf; omega
    obtain ⟨bb, off, rfl, hbb, hcc⟩ := hrow.cell hlpos
    have hcell := hcc (len - 1) (by omega)
    have hr := hw (bs.getD (len - 1) 0) (by simp [List.getD, show len - 1 < bs.length by omega])
    have e3 : (0 : Int) < (bs.getD (len - 1) 0) / 2 ^ (n % 8) := by
      have hnn : (0 : Int) ≤ (bs.getD (len - 1) 0) / 2 ^ (n % 8) := Int.ediv_nonneg hr.1 (Int.le_of_lt (Int.pow_pos (by omega)))
      omega
    clear hci hcc hz hbad hnc hrow h hlN
    generalize bs.getD (len - 1) 0 = x at *
    go_wp2_with fail
    go_quiet (fail)
    go_wp2_with fail
    go_quiet (fail)
    go_wp2_with fail
    go_ret2
    exact ⟨rfl, (hk1.drewN _).drewN _⟩
  · have e1 : ((len : Int) != ((bytesOf n : Nat) : Int)) = true := by rw [bne_iff_ne]; omega
    clear hci hbad hrow h hlN
    go_wp2_with fail
    go_quiet (fail)
    go_wp2_with fail
    go_quiet (fail)
    go_wp2_with fail
    go_ret2
    exact ⟨rfl, (hk1.drewN _).drewN _⟩

/-! ### The document's -/
theorem hasB_out {bs : List Int} {i : Nat} (h : bs.length ≤ i / 8) : hasB bs i = false := by
  unfold hasB
  simp [List.getD, show ¬ i / 8 < bs.length by omega]
def MapOfPost (w : World) (n : Nat) (bs : List Int) (e : Ending) (w' : World) : Prop :=
  ∃ g b, e = .returned (.tuple #[.pointer (some ⟨g, 0, none⟩), .bool true]) ∧ IsRef w' g b n bs ∧ Keeps Nil w w' ∧ w.heap.size ≤ g ∧ w.heap.size ≤ b
set_option maxHeartbeats 800000 in
theorem mapOf_good {w : World} (i : Int) {a : Option Addr} {len cap : Nat} {bs : List Int} (h : Row .u8 w a len bs) (hl : bs.length = bytesOf (capN i)) (hc : Clean (capN i) bs) :
    Calls Tryd.prog 9 #[.int .i64 i, .slice a len cap] w (MapOfPost w (capN i) bs) := by
  have hlen := h.llen
  have hw : ∀ x ∈ bs, 0 ≤ x ∧ x < 256 := fun x hx => by have := u8_wf (h.wf x hx); omega
  have hN := capN_le i
  have hlN : len = bytesOf (capN i) := by omega
  go_enter Tryd.func9, Tryd.ntmps9
  go_wp2_with fail
  refine (refNew_walk i _).mono ?_
  rintro e w1 ⟨g, b, rfl, hm1, hk1, hg1, hb1⟩
  generalize capN i = n at *
  have d0 := hm1.cell0
  have e1 : ((len : Int) != ((n : Int) + 7) / 8) = false := by rw [bne_eq_false_iff_eq, hlN]; unfold bytesOf; omega
  have hlb : len ≤ 126 := by rw [hlN]; unfold bytesOf; omega
  have hm0 : IsRef w1 g b n (packTo n bs 0) := hm1
  have HL := Lib.hid (And.intro hl hlN)
  have HC := Lib.hid hc
  clear hm1 hl hc hlN
  go_wp2_with fail
  go_loopw [7] (fun v wr => ∃ (j : Nat), j ≤ 8 * len ∧ v = .int .i64 j ∧ IsRef wr g b n (packTo n bs (min j n)) ∧ Hid (Keeps Nil w wr)) (fun v _ => 8 * len - (intOf v).toNat)
  case atStart => exact ⟨0, Nat.zero_le _, rfl, by rw [Nat.zero_min]; exact hm0, hk1⟩
  case round =>
    obtain ⟨j, hj, rfl, hd, hkr⟩ := hrel
    clear hm0 hk1 d0
    have d0 := hd.cell0
    by_cases hlt : j < 8 * len
    · obtain ⟨bb, off, rfl, hbb, hcc⟩ := h.cell (by omega)
      have hcell := hkr.out.cell (hcc (j / 8) (by omega)) (fun h => h)
      have hr := hw (bs.getD (j / 8) 0) (by simp [List.getD, show j / 8 < bs.length by omega])
      have hx0 : (0 : Int) ≤ bs.getD (j / 8) 0 / 2 ^ (j % 8) := Int.ediv_nonneg hr.1 (Int.le_of_lt (Int.pow_pos (by omega)))
      have hx1 : bs.getD (j / 8) 0 / 2 ^ (j % 8) < 256 := Int.lt_of_le_of_lt (Int.ediv_le_self _ hr.1) hr.2
      have ha := and1 _ hx0 hx1
      have hh : hasB bs j = (bs.getD (j / 8) 0 / 2 ^ (j % 8) % 2 == 1) := rfl
      have hm2 : bs.getD (j / 8) 0 / 2 ^ (j % 8) % 2 = 0 ∨ bs.getD (j / 8) 0 / 2 ^ (j % 8) % 2 = 1 := by omega
      by_cases hb : hasB bs j = true
      · have hjn : j < n := by
          rcases Nat.lt_or_ge j n with h' | h'
          · exact h'
          · rw [HC.out j h'] at hb; cases hb
        have he : (bits .and .u8 (bs.getD (j / 8) 0 / 2 ^ (j % 8)) 1 == 0) = false := by
          rw [ha, beq_eq_false_iff_ne]
          rw [hh, beq_iff_eq] at hb
          omega
        have hpk : packTo n bs (min (j + 1) n) = setB (packTo n bs (min j n)) j := by
          rw [show min (j + 1) n = j + 1 by omega, show min j n = j by omega, packTo]
          simp [hasI, hjn, hb]
        have HPK := Lib.hid hpk
        have hput := hd.put hjn
        have HPUT := Lib.hid hput
        have cb := hd.arr.cell j (refC_get hjn)
        have fb := hd.arr.frozen j
        clear hpk hput ha hh hm2 hb hcc hx0 hx1
        generalize bs.getD (j / 8) 0 = x at *
        generalize hasI n (packTo n bs (min j n)) (j : Int) = ob at *
        go_wp2
        go_roundw
        case rel =>
          have hk3 := hkr.out.setCell (p := ⟨b, j, none⟩) (.inr hb1) (.bool true)
          first | exact ⟨j + 1, by omega, by go_num, by rw [HPK.out]; exact HPUT.out, hk3⟩ | ((repeat apply Exists.intro); exact ⟨⟨j + 1, by omega, by go_num, by rw [HPK.out]; exact HPUT.out, hk3⟩, rfl⟩)
        case measure => simp [intOf]; omega
      · have hb' : hasB bs j = false := by simpa using hb
        have he : (bits .and .u8 (bs.getD (j / 8) 0 / 2 ^ (j % 8)) 1 == 0) = true := by
          rw [ha, beq_iff_eq]
          rw [hh, beq_eq_false_iff_ne] at hb'
          omega
        have hpk : packTo n bs (min (j + 1) n) = packTo n bs (min j n) := by
          by_cases hjn : j < n
          · rw [show min (j + 1) n = j + 1 by omega, show min j n = j by omega, packTo]
            simp [hasI, hjn, hb']
          · rw [show min (j + 1) n = n by omega, show min j n = n by omega]
        have HPK := Lib.hid hpk
        clear hpk ha hh hm2 hb hb' hcc hx0 hx1
        generalize bs.getD (j / 8) 0 = x at *
        go_wp2
        go_roundw
        case rel =>
          first | exact ⟨j + 1, by omega, by go_num, by rw [HPK.out]; exact hd, hkr.out⟩ | ((repeat apply Exists.intro); exact ⟨⟨j + 1, by omega, by go_num, by rw [HPK.out]; exact hd, hkr.out⟩, rfl⟩)
        case measure => simp [intOf]; omega
    · obtain rfl : j = 8 * len := by omega
      have hmin : min (8 * len) n = n := by have := HL.out.2; unfold bytesOf at this; omega
      rw [hmin, pack_all HL.out.1 hw HC.out] at hd
      have HD := Lib.hid hd
      clear hd hmin d0
      go_wp2
      go_ret2
      exact ⟨g, b, rfl, HD.out, hkr.out, hg1, hb1⟩
set_option maxHeartbeats 800000 in
theorem mapOf_bad {w : World} (i : Int) {a : Option Addr} {len cap : Nat} {bs : List Int} (h : Row .u8 w a len bs) (hlen150 : len ≤ 1000) (hbad : ¬ (bs.length = bytesOf (capN i) ∧ Clean (capN i) bs)) :
    Calls Tryd.prog 9 #[.int .i64 i, .slice a len cap] w fun e w' => e = .returned (.tuple #[.pointer none, .bool false]) ∧ Keeps Nil w w' := by
  have hlen := h.llen
  have hw : ∀ x ∈ bs, 0 ≤ x ∧ x < 256 := fun x hx => by have := u8_wf (h.wf x hx); omega
  have hN := capN_le i
  go_enter Tryd.func9, Tryd.ntmps9
  go_wp2_with fail
  refine (refNew_walk i _).mono ?_
  rintro e w1 ⟨g, b, rfl, hm1, hk1, hg1, hb1⟩
  generalize capN i = n at *
  have d0 := hm1.cell0
  by_cases hlN : len = bytesOf n
  · have hnc : ∃ q, n ≤ q ∧ q < 8 * len ∧ hasB bs q = true := by
      rcases Classical.em (∃ q, n ≤ q ∧ q < 8 * len ∧ hasB bs q = true) with h' | h'
      · exact h'
      · refine (hbad ⟨by omega, fun q hq => ?_⟩).elim
        by_cases hq8 : q < 8 * len
        · cases hh : hasB bs q
          · rfl
          · exact (h' ⟨q, hq, hq8, hh⟩).elim
        · exact hasB_out (by omega)
    obtain ⟨q, hq1, hq2, hq3⟩ := hnc
    have e1 : ((len : Int) != ((n : Int) + 7) / 8) = false := by rw [bne_eq_false_iff_eq, hlN]; unfold bytesOf; omega
    have hm0 : IsRef w1 g b n (packTo n bs 0) := hm1
    have HQ := Lib.hid hq3
    clear hm1 hq3 hbad hlN
    go_wp2_with fail
    go_loopw [7] (fun v wr => ∃ (j : Nat), j ≤ q ∧ v = .int .i64 j ∧ IsRef wr g b n (packTo n bs (min j n)) ∧ Hid (Keeps Nil w wr)) (fun v _ => 8 * len - (intOf v).toNat)
    case atStart => exact ⟨0, Nat.zero_le _, rfl, by rw [Nat.zero_min]; exact hm0, hk1⟩
    case round =>
      obtain ⟨j, hj, rfl, hd, hkr⟩ := hrel
      clear hm0 hk1 d0
      have d0 := hd.cell0
      have hlt : j < 8 * len := by omega
      obtain ⟨bb, off, rfl, hbb, hcc⟩ := h.cell (by omega)
      have hcell := hkr.out.cell (hcc (j / 8) (by omega)) (fun h => h)
      have hr := hw (bs.getD (j / 8) 0) (by simp [List.getD, show j / 8 < bs.length by omega])
      have hx0 : (0 : Int) ≤ bs.getD (j / 8) 0 / 2 ^ (j % 8) := Int.ediv_nonneg hr.1 (Int.le_of_lt (Int.pow_pos (by omega)))
      have hx1 : bs.getD (j / 8) 0 / 2 ^ (j % 8) < 256 := Int.lt_of_le_of_lt (Int.ediv_le_self _ hr.1) hr.2
      have ha := and1 _ hx0 hx1
      have hh : hasB bs j = (bs.getD (j / 8) 0 / 2 ^ (j % 8) % 2 == 1) := rfl
      have hm2 : bs.getD (j / 8) 0 / 2 ^ (j % 8) % 2 = 0 ∨ bs.getD (j / 8) 0 / 2 ^ (j % 8) % 2 = 1 := by omega
      by_cases hb : hasB bs j = true
      · have he : (bits .and .u8 (bs.getD (j / 8) 0 / 2 ^ (j % 8)) 1 == 0) = false := by
          rw [ha, beq_eq_false_iff_ne]
          rw [hh, beq_iff_eq] at hb
          omega
        by_cases hjn : j < n
        · have hpk : packTo n bs (min (j + 1) n) = setB (packTo n bs (min j n)) j := by
            rw [show min (j + 1) n = j + 1 by omega, show min j n = j by omega, packTo]
            simp [hasI, hjn, hb]
          have HPK := Lib.hid hpk
          have hput := hd.put hjn
          have HPUT := Lib.hid hput
          have cb := hd.arr.cell j (refC_get hjn)
          have fb := hd.arr.frozen j
          clear hpk hput ha hh hm2 hb hcc hx0 hx1
          generalize bs.getD (j / 8) 0 = x at *
          generalize hasI n (packTo n bs (min j n)) (j : Int) = ob at *
          go_wp2
          go_roundw
          case rel =>
            have hk3 := hkr.out.setCell (p := ⟨b, j, none⟩) (.inr hb1) (.bool true)
            first | exact ⟨j + 1, by omega, by go_num, by rw [HPK.out]; exact HPUT.out, hk3⟩ | ((repeat apply Exists.intro); exact ⟨⟨j + 1, by omega, by go_num, by rw [HPK.out]; exact HPUT.out, hk3⟩, rfl⟩)
          case measure => simp [intOf]; omega
        · clear ha hh hm2 hb hcc hx0 hx1
          generalize bs.getD (j / 8) 0 = x at *
          go_wp2
          go_ret2
          exact ⟨rfl, hkr.out⟩
      · have hb' : hasB bs j = false := by simpa using hb
        have hjq : j < q := by
          rcases Nat.lt_or_ge j q with h' | h'
          · exact h'
          · have : j = q := by omega
            rw [this, HQ.out] at hb'; cases hb'
        have he : (bits .and .u8 (bs.getD (j / 8) 0 / 2 ^ (j % 8)) 1 == 0) = true := by
          rw [ha, beq_iff_eq]
          rw [hh, beq_eq_false_iff_ne] at hb'
          omega
        have hpk : packTo n bs (min (j + 1) n) = packTo n bs (min j n) := by
          by_cases hjn : j < n
          · rw [show min (j + 1) n = j + 1 by omega, show min j n = j by omega, packTo]
            simp [hasI, hjn, hb']
          · rw [show min (j + 1) n = n by omega, show min j n = n by omega]
        have HPK := Lib.hid hpk
        clear hpk ha hh hm2 hb hb' hcc hx0 hx1
        generalize bs.getD (j / 8) 0 = x at *
        go_wp2
        go_roundw
        case rel =>
          first | exact ⟨j + 1, by omega, by go_num, by rw [HPK.out]; exact hd, hkr.out⟩ | ((repeat apply Exists.intro); exact ⟨⟨j + 1, by omega, by go_num, by rw [HPK.out]; exact hd, hkr.out⟩, rfl⟩)
        case measure => simp [intOf]; omega
  · have e1 : ((len : Int) != ((n : Int) + 7) / 8) = true := by rw [bne_iff_ne]; unfold bytesOf at hlN; omega
    go_wp2_with fail
    go_ret2
    exact ⟨rfl, hk1⟩
end Go.Proofs.YtokminiendnhoaaDoor
