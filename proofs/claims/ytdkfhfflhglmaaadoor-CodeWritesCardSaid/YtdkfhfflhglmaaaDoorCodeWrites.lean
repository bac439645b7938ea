/-
  The law CodeWrites.
-/
import Derived.Test.YtdkfhfflhglmaaaDoorCodeWriters
import Derived.Test.YtdkfhfflhglmaaaDoorInts
namespace Go.Proofs.YtdkfhfflhglmaaaDoor
open Go.RowKit

theorem sameL_refl (l : List Int) : sameL l l = true := by simp [sameL]

set_option maxRecDepth 100000 in
set_option maxHeartbeats 8000000 in
theorem codeWrites_walk (a0 : Option Addr) (len0 cap0 : Nat) (z0 : Nat → Nat → Int) (a1 : Option Addr) (len1 cap1 : Nat) (z1 : List Int) (w : World) (w0 : IsInts 2 w a0 len0 z0) (w1 : IsRow .u8 w a1 len1 cap1 z1) {p : Nat → Addr} (hE : ErrTwo w p) :
    Calls Tryd.prog 6 #[.slice a0 len0 cap0, .slice a1 len1 cap1] w (TrueC w) := by
  have hrow := Row.of_isRow w1
  have hnil := w1.nil
  have hm0 := w0.most
  have hm1 := hrow.most
  clear w1
  generalize z1.take len1 = bs at *
  have HNil := Lib.hid hnil
  clear hnil
  have hbl := hrow.llen
  have hbb := hrow.bytes
  go_enter Tryd.func6, Tryd.ntmps6
  go_wp2_with fail
  refine (codefirst_walk hE).mono ?_
  rintro e wA ⟨rfl, hkA⟩
  by_cases hl0 : 40 < len0
  · go_wp2_with fail
    go_ret
    exact ⟨rfl, hkA⟩
  by_cases hl1 : 60 < len1
  · go_wp2_with fail
    go_ret
    exact ⟨rfl, hkA⟩
  have hwr : IsWr 38 (wA.alloc (.cells #[.slice none 0 0] 38)) wA.heap.size none 0 [] := IsWr.new wA _ _ rfl
  have hk1 : Keeps Nil wA (wA.alloc (.cells #[.slice none 0 0] 38)) := (Keeps.refl Nil wA).alloc _
  have hs1 : (wA.alloc (.cells #[.slice none 0 0] 38)).heap.size = wA.heap.size + 1 := size_alloc' _ _
  have hrf : IsWr 41 ((wA.alloc (.cells #[.slice none 0 0] 38)).alloc (.cells #[.slice none 0 0] 41)) (wA.heap.size + 1) none 0 [] := IsWr.new _ _ _ hs1.symm
  have hk2 : Keeps Nil (wA.alloc (.cells #[.slice none 0 0] 38)) ((wA.alloc (.cells #[.slice none 0 0] 38)).alloc (.cells #[.slice none 0 0] 41)) := (Keeps.refl Nil _).alloc _
  have hB : Both ((wA.alloc (.cells #[.slice none 0 0] 38)).alloc (.cells #[.slice none 0 0] 41)) w.heap.size wA.heap.size (wA.heap.size + 1) none 0 none 0 [] [] := by
    refine ⟨hwr.keep0 hk2, hrf, fun k hk hk' => ?_, fun k hk => ?_, fun k hk => ?_⟩
    · rcases hk with rfl | hk
      · rcases hk' with h | h
        · omega
        · exact blkOf_none _ h
      · exact blkOf_none _ hk
    · rcases hk with rfl | hk
      · exact hkA.size
      · exact (blkOf_none _ hk).elim
    · rcases hk with rfl | hk
      · exact Nat.le_trans hkA.size (by omega)
      · exact (blkOf_none _ hk).elim
  have hkW : Keeps Nil w ((wA.alloc (.cells #[.slice none 0 0] 38)).alloc (.cells #[.slice none 0 0] 41)) := (hkA.trans hk1).trans hk2
  go_wp2_with fail
  generalize hwB : ((wA.alloc (.cells #[.slice none 0 0] 38)).alloc (.cells #[.slice none 0 0] 41)) = wB at *
  generalize hgx : wA.heap.size + 1 = gx at *
  generalize hgw : wA.heap.size = gw at *
  clear hwr hk1 hk2 hrf hs1 hkA hwB
  go_loopw [8] (fun v wr => ∃ (i : Nat) (a : Option Addr) (c : Nat) (a' : Option Addr) (c' : Nat) (l : List Int), i ≤ len0 ∧ v = .int .i64 i ∧ Hid (Both wr w.heap.size gw gx a c a' c' l l ∧ l.length ≤ i * 64 ∧ (∀ x ∈ l, 0 ≤ x ∧ x < 256) ∧ Keeps Nil w wr)) (fun v _ => len0 - (intOf v).toNat)
  case atStart => exact ⟨0, none, 0, none, 0, [], Nat.zero_le _, rfl, hB, Nat.zero_le _, (fun _ h => by cases h), hkW⟩
  case round =>
    obtain ⟨i, a, c, a', c', l, hi, rfl, ⟨hBi, hli, hlb, hki⟩⟩ := hrel
    clear hB hkW
    by_cases hlt : i < len0
    · obtain ⟨b0, off0, rfl, hb0, hc0⟩ := w0.cell (by omega)
      have ck0 : w.cell? ⟨b0, off0 + i * 2, none⟩ = some (.int .i64 (z0 i 0)) := hc0 i 0 hlt (by omega)
      have cn0 : w.cell? ⟨b0, off0 + i * 2 + 1, none⟩ = some (.int .i64 (z0 i 1)) := hc0 i 1 hlt (by omega)
      have hwk := w0.wf i 0 hlt (by omega)
      have hwn := w0.wf i 1 hlt (by omega)
      have hrowi := hrow.keep hki
      have hl100 : l.length ≤ 2560 := by omega
      have hfar : 0 < len1 → ∀ k, blkOf a1 k → k < w.heap.size := fun h0 k hk => by
        obtain ⟨b, off, ha, hb, _⟩ := hrow.cell h0
        obtain ⟨x, hx, rfl⟩ := hk
        rw [ha] at hx
        cases hx
        exact hb
      generalize z0 i 0 = kd at *
      generalize z0 i 1 = nn at *
      clear hc0 w0
      have ck := hki.cell ck0 (fun h => h)
      have cn := hki.cell cn0 (fun h => h)
      clear ck0
      go_wp2_with fail
      refine (number_walk kd 4 _ hwk.1 hwk.2 (by omega) (by omega)).mono ?_
      rintro e wx ⟨rfl, rfl⟩
      obtain ⟨q, hq, hqm⟩ : ∃ q : Nat, q < 4 ∧ kd % 4 = q := ⟨(kd % 4).toNat, by omega, by omega⟩
      rw [hqm]
      clear ck hwk hqm
      match q, hq with
      | 0, _ =>
        go_wp2_with fail
        refine (wrU8_walk hBi.wr nn (by omega)).mono ?_
        rintro e w2 ⟨a2, c2, rfl, h2, hk2, hf2⟩
        have hB2 := hBi.left h2 hk2 hf2
        have hK2 := hki.step hk2 (fun j hj => .inr (hBi.ge j hj))
        have cn2 := hK2.cell cn0 (fun h => h)
        clear cn
        go_wp2_with fail
        refine (rfU8_walk hB2.rf nn (by omega)).mono ?_
        rintro e w3 ⟨a3, c3, rfl, h3, hk3, hf3⟩
        have hB3 := hB2.right h3 hk3 hf3
        have hK3 := hK2.step hk3 (fun j hj => .inr (hB2.ge' j hj))
        have hlz : (l ++ [nn % 256]).length ≤ (i + 1) * 64 := by simp; omega
        have hbz : ∀ x ∈ l ++ [nn % 256], 0 ≤ x ∧ x < 256 := fun x hx => by
          rcases List.mem_append.1 hx with hx | hx
          · exact hlb x hx
          · rw [List.mem_singleton.1 hx]; omega
        generalize l ++ [nn % 256] = lz at *
        clear cn0 cn2
        have hwfz : ∀ x ∈ lz, (Lit.int .u8 x).wf = true := fun x hx => by have := hbz x hx; simp [Lit.wf, IntKind.min, IntKind.max, IntKind.signed, IntKind.bits]; omega
        have cx := hB3.rf.obj.cell 0 (v := .slice a3 lz.length c3) rfl
        have HZ := Lib.hid (And.intro hB3 (And.intro hbz (And.intro hwfz (And.intro hlz hK3))))
        have hzl : lz.length ≤ 200000 := by omega
        clear hB3 hbz hwfz hK3 hK2 hB2 hki hBi hlb hrowi hk2 hk3 hf2 hf3 h2 h3
        go_wp2_with fail
        go_region_held3 (fun w' => w'.cell? ⟨gx, 0, none⟩ = some (.slice a3 lz.length c3)) (first | go_keep | exact hkC.cell cx (fun h => h) | exact hkB.cell cx (fun h => h) | exact cx) (first | (go_at_call 35; refine (wrBytes_walk (HZ.out.1.wr.keep0 (Keeps.refl Nil _).drew) hzl HZ.out.2.1).mono ?_; rintro e w4 ⟨a4, c4, rfl, ho4, hk4, hf4⟩; have hkB := (Keeps.refl Nil w3).drew.trans hk4) | (go_at_call 34; refine (sameBytes_walk (ho4.row HZ.out.2.2.1) ((HZ.out.1.rf.arr.row HZ.out.2.2.1).keep hkB)).mono ?_; rintro e w5 ⟨rfl, hd5⟩; have hkC := hkB.trans (hd5.keeps Nil)))
        rw [sameL_refl]
        have HD := Lib.hid (And.intro (HZ.out.1.keep0 hkC) (HZ.out.2.2.2.2.trans hkC))
        go_wp2_with fail
        have hcast : ((i : Int) + 1) = ((i + 1 : Nat) : Int) := by omega
        rw [hcast]
        go_roundw
        case rel => first | exact ⟨i + 1, _, _, _, _, lz, by omega, rfl, HD.out.1, HZ.out.2.2.2.1, HZ.out.2.1, HD.out.2⟩ | ((repeat apply Exists.intro); exact ⟨⟨i + 1, _, _, _, _, lz, by omega, rfl, HD.out.1, HZ.out.2.2.2.1, HZ.out.2.1, HD.out.2⟩, rfl⟩)
        case measure => simp [intOf]; omega
      | 1, _ =>
        go_wp2_with fail
        refine (wrU32_walk hBi.wr (nn % 4294967296) (by omega) (by omega) (by omega)).mono ?_
        rintro e w2 ⟨a2, c2, rfl, h2, hk2, hf2⟩
        have hB2 := hBi.left h2 hk2 hf2
        have hK2 := hki.step hk2 (fun j hj => .inr (hBi.ge j hj))
        have cn2 := hK2.cell cn0 (fun h => h)
        have hrow2 := hrow.keep hK2
        clear cn
        go_wp2_with fail
        refine (rfU32_walk hB2.rf (nn % 4294967296) (by omega) (by omega) (by omega)).mono ?_
        rintro e w3 ⟨a3, c3, rfl, h3, hk3, hf3⟩
        have hB3 := hB2.right h3 hk3 hf3
        have hK3 := hK2.step hk3 (fun j hj => .inr (hB2.ge' j hj))
        have hlz : (l ++ le4 (nn % 4294967296)).length ≤ (i + 1) * 64 := by simp [le4]; omega
        have hbz : ∀ x ∈ l ++ le4 (nn % 4294967296), 0 ≤ x ∧ x < 256 := fun x hx => by
          rcases List.mem_append.1 hx with hx | hx
          · exact hlb x hx
          · exact le4_bytes _ (by omega) (by omega) x hx
        generalize l ++ le4 (nn % 4294967296) = lz at *
        clear cn0 cn2 hrow2
        have hwfz : ∀ x ∈ lz, (Lit.int .u8 x).wf = true := fun x hx => by have := hbz x hx; simp [Lit.wf, IntKind.min, IntKind.max, IntKind.signed, IntKind.bits]; omega
        have cx := hB3.rf.obj.cell 0 (v := .slice a3 lz.length c3) rfl
        have HZ := Lib.hid (And.intro hB3 (And.intro hbz (And.intro hwfz (And.intro hlz hK3))))
        have hzl : lz.length ≤ 200000 := by omega
        clear hB3 hbz hwfz hK3 hK2 hB2 hki hBi hlb hrowi hk2 hk3 hf2 hf3 h2 h3
        go_wp2_with fail
        go_region_held3 (fun w' => w'.cell? ⟨gx, 0, none⟩ = some (.slice a3 lz.length c3)) (first | go_keep | exact hkC.cell cx (fun h => h) | exact hkB.cell cx (fun h => h) | exact cx) (first | (go_at_call 35; refine (wrBytes_walk (HZ.out.1.wr.keep0 (Keeps.refl Nil _).drew) hzl HZ.out.2.1).mono ?_; rintro e w4 ⟨a4, c4, rfl, ho4, hk4, hf4⟩; have hkB := (Keeps.refl Nil w3).drew.trans hk4) | (go_at_call 34; refine (sameBytes_walk (ho4.row HZ.out.2.2.1) ((HZ.out.1.rf.arr.row HZ.out.2.2.1).keep hkB)).mono ?_; rintro e w5 ⟨rfl, hd5⟩; have hkC := hkB.trans (hd5.keeps Nil)))
        rw [sameL_refl]
        have HD := Lib.hid (And.intro (HZ.out.1.keep0 hkC) (HZ.out.2.2.2.2.trans hkC))
        go_wp2_with fail
        have hcast : ((i : Int) + 1) = ((i + 1 : Nat) : Int) := by omega
        rw [hcast]
        go_roundw
        case rel => first | exact ⟨i + 1, _, _, _, _, lz, by omega, rfl, HD.out.1, HZ.out.2.2.2.1, HZ.out.2.1, HD.out.2⟩ | ((repeat apply Exists.intro); exact ⟨⟨i + 1, _, _, _, _, lz, by omega, rfl, HD.out.1, HZ.out.2.2.2.1, HZ.out.2.1, HD.out.2⟩, rfl⟩)
        case measure => simp [intOf]; omega
      | 2, _ =>
        go_wp2_with fail
        refine (wrRaw_walk hBi.wr (by omega) hrowi HNil.out (by omega)).mono ?_
        rintro e w2 ⟨a2, c2, rfl, h2, hk2, hf2⟩
        have hB2 := hBi.left h2 hk2 hf2
        have hK2 := hki.step hk2 (fun j hj => .inr (hBi.ge j hj))
        have cn2 := hK2.cell cn0 (fun h => h)
        have hrow2 := hrow.keep hK2
        clear cn
        go_wp2_with fail
        refine (rfRaw_walk hB2.rf (by omega) hrow2 HNil.out (by omega)).mono ?_
        rintro e w3 ⟨a3, c3, rfl, h3, hk3, hf3⟩
        have hB3 := hB2.right h3 hk3 hf3
        have hK3 := hK2.step hk3 (fun j hj => .inr (hB2.ge' j hj))
        have hlz : (l ++ bs).length ≤ (i + 1) * 64 := by simp [le4]; omega
        have hbz : ∀ x ∈ l ++ bs, 0 ≤ x ∧ x < 256 := fun x hx => by
          rcases List.mem_append.1 hx with hx | hx
          · exact hlb x hx
          · exact hbb x hx
        generalize l ++ bs = lz at *
        clear cn0 cn2 hrow2
        have hwfz : ∀ x ∈ lz, (Lit.int .u8 x).wf = true := fun x hx => by have := hbz x hx; simp [Lit.wf, IntKind.min, IntKind.max, IntKind.signed, IntKind.bits]; omega
        have cx := hB3.rf.obj.cell 0 (v := .slice a3 lz.length c3) rfl
        have HZ := Lib.hid (And.intro hB3 (And.intro hbz (And.intro hwfz (And.intro hlz hK3))))
        have hzl : lz.length ≤ 200000 := by omega
        clear hB3 hbz hwfz hK3 hK2 hB2 hki hBi hlb hrowi hk2 hk3 hf2 hf3 h2 h3
        go_wp2_with fail
        go_region_held3 (fun w' => w'.cell? ⟨gx, 0, none⟩ = some (.slice a3 lz.length c3)) (first | go_keep | exact hkC.cell cx (fun h => h) | exact hkB.cell cx (fun h => h) | exact cx) (first | (go_at_call 35; refine (wrBytes_walk (HZ.out.1.wr.keep0 (Keeps.refl Nil _).drew) hzl HZ.out.2.1).mono ?_; rintro e w4 ⟨a4, c4, rfl, ho4, hk4, hf4⟩; have hkB := (Keeps.refl Nil w3).drew.trans hk4) | (go_at_call 34; refine (sameBytes_walk (ho4.row HZ.out.2.2.1) ((HZ.out.1.rf.arr.row HZ.out.2.2.1).keep hkB)).mono ?_; rintro e w5 ⟨rfl, hd5⟩; have hkC := hkB.trans (hd5.keeps Nil)))
        rw [sameL_refl]
        have HD := Lib.hid (And.intro (HZ.out.1.keep0 hkC) (HZ.out.2.2.2.2.trans hkC))
        go_wp2_with fail
        have hcast : ((i : Int) + 1) = ((i + 1 : Nat) : Int) := by omega
        rw [hcast]
        go_roundw
        case rel => first | exact ⟨i + 1, _, _, _, _, lz, by omega, rfl, HD.out.1, HZ.out.2.2.2.1, HZ.out.2.1, HD.out.2⟩ | ((repeat apply Exists.intro); exact ⟨⟨i + 1, _, _, _, _, lz, by omega, rfl, HD.out.1, HZ.out.2.2.2.1, HZ.out.2.1, HD.out.2⟩, rfl⟩)
        case measure => simp [intOf]; omega
      | 3, _ =>
        go_wp2_with fail
        refine (wrList2_walk hBi.wr (by omega) hrowi HNil.out (by omega) (fun h0 k hk hk' => by have := hfar h0 k hk; have := hBi.ge k hk'; omega)).mono ?_
        rintro e w2 ⟨a2, c2, rfl, h2, hk2, hf2⟩
        have hB2 := hBi.left h2 hk2 hf2
        have hK2 := hki.step hk2 (fun j hj => .inr (hBi.ge j hj))
        have cn2 := hK2.cell cn0 (fun h => h)
        have hrow2 := hrow.keep hK2
        clear cn
        go_wp2_with fail
        refine (rfList2_walk hB2.rf (by omega) hrow2 HNil.out (by omega) (fun h0 k hk hk' => by have := hfar h0 k hk; have := hB2.ge' k hk'; omega)).mono ?_
        rintro e w3 ⟨a3, c3, rfl, h3, hk3, hf3⟩
        have hB3 := hB2.right h3 hk3 hf3
        have hK3 := hK2.step hk3 (fun j hj => .inr (hB2.ge' j hj))
        have hlz : (l ++ (le4 len1 ++ bs)).length ≤ (i + 1) * 64 := by simp [le4]; omega
        have hbz : ∀ x ∈ l ++ (le4 len1 ++ bs), 0 ≤ x ∧ x < 256 := fun x hx => by
          rcases List.mem_append.1 hx with hx | hx
          · exact hlb x hx
          · rcases List.mem_append.1 hx with hx | hx
            · exact le4_bytes _ (by omega) (by omega) x hx
            · exact hbb x hx
        generalize l ++ (le4 len1 ++ bs) = lz at *
        clear cn0 cn2 hrow2
        have hwfz : ∀ x ∈ lz, (Lit.int .u8 x).wf = true := fun x hx => by have := hbz x hx; simp [Lit.wf, IntKind.min, IntKind.max, IntKind.signed, IntKind.bits]; omega
        have cx := hB3.rf.obj.cell 0 (v := .slice a3 lz.length c3) rfl
        have HZ := Lib.hid (And.intro hB3 (And.intro hbz (And.intro hwfz (And.intro hlz hK3))))
        have hzl : lz.length ≤ 200000 := by omega
        clear hB3 hbz hwfz hK3 hK2 hB2 hki hBi hlb hrowi hk2 hk3 hf2 hf3 h2 h3
        go_wp2_with fail
        go_region_held3 (fun w' => w'.cell? ⟨gx, 0, none⟩ = some (.slice a3 lz.length c3)) (first | go_keep | exact hkC.cell cx (fun h => h) | exact hkB.cell cx (fun h => h) | exact cx) (first | (go_at_call 35; refine (wrBytes_walk (HZ.out.1.wr.keep0 (Keeps.refl Nil _).drew) hzl HZ.out.2.1).mono ?_; rintro e w4 ⟨a4, c4, rfl, ho4, hk4, hf4⟩; have hkB := (Keeps.refl Nil w3).drew.trans hk4) | (go_at_call 34; refine (sameBytes_walk (ho4.row HZ.out.2.2.1) ((HZ.out.1.rf.arr.row HZ.out.2.2.1).keep hkB)).mono ?_; rintro e w5 ⟨rfl, hd5⟩; have hkC := hkB.trans (hd5.keeps Nil)))
        rw [sameL_refl]
        have HD := Lib.hid (And.intro (HZ.out.1.keep0 hkC) (HZ.out.2.2.2.2.trans hkC))
        go_wp2_with fail
        have hcast : ((i : Int) + 1) = ((i + 1 : Nat) : Int) := by omega
        rw [hcast]
        go_roundw
        case rel => first | exact ⟨i + 1, _, _, _, _, lz, by omega, rfl, HD.out.1, HZ.out.2.2.2.1, HZ.out.2.1, HD.out.2⟩ | ((repeat apply Exists.intro); exact ⟨⟨i + 1, _, _, _, _, lz, by omega, rfl, HD.out.1, HZ.out.2.2.2.1, HZ.out.2.1, HD.out.2⟩, rfl⟩)
        case measure => simp [intOf]; omega
      | n + 4, h => omega
    · obtain rfl : i = len0 := by omega
      go_wp2_with fail
      go_ret
      exact ⟨rfl, hki⟩
end Go.Proofs.YtdkfhfflhglmaaaDoor
