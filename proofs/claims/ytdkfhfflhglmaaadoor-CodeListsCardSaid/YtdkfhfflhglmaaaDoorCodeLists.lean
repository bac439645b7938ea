/-
  The law CodeLists.
-/
import Derived.Test.YtdkfhfflhglmaaaDoorCodeFirst
import Derived.Test.YtdkfhfflhglmaaaDoorVars
namespace Go.Proofs.YtdkfhfflhglmaaaDoor
open Go.RowKit

theorem Errs.glt' {w : World} {p : Nat → Addr} (h : Errs w p) {k : Nat} (hk : k < 19) : gnums.getD k 0 < w.heap.size := World.block_lt_of_cell? w _ (h.at_ k hk)
theorem sameL_refl (l : List Int) : sameL l l = true := by simp [sameL]
/-- What the list's reading leaves. -/
def ListR (g3 gg mo n len : Nat) (l : List Int) (c : Nat) (o : Out) (w : World) : Prop :=
  if mo < n ∨ len < n then Blk w gg [.slice (some ⟨g3, 0, none⟩) 3 3] 36 ∧ o = .fell 1 (if mo < n then 1 else 2)
  else ∃ a cp, Blk w gg [.slice a n cp] 36 ∧ Own w 5 1 a cp n (byteV (cutL l 5 n)) ∧ (∀ k, blkOf a k → c < k) ∧ o = .done (5 + n)

set_option maxRecDepth 20000 in
set_option maxHeartbeats 1600000 in
theorem codeListsIn_walk {w0 w : World} {p : Nat → Addr} (hE : Errs w0 p) (h0 : Keeps Nil w0 w) {g3 gm gg gr cr mo n len c : Nat} {ar : Option Addr} {l : List Int} (hl : l.length = 5 + len) (h7 : l.getD 0 0 = 7) (hn : num4 l 1 = n) (hmo : mo < 50) (hlen : len ≤ 40) (hc : c < w.heap.size)
    (hm : Blk w gm [.int .i64 mo] 3) (hg : Blk w gg [.slice (some ⟨g3, 0, none⟩) 3 3] 36) (hr : IsRd 102 w gr ar cr l 0 []) (hgr : w0.heap.size ≤ gr) (hng : ¬ wrOf gr ar gg) (hnm : gm ≠ gr) :
    Calls Tryd.prog 45 #[.pointer (some ⟨gr, 0, none⟩), .pointer (some ⟨gm, 0, none⟩), .pointer (some ⟨gg, 0, none⟩)] w (ReadIn (One gg) p l gr (ListR g3 gg mo n len l c) w) := by
  have hgr1 : gg ≠ gr := fun e => hng (.inl e)
  have HU := Lib.hid (rdU8_ok hr (by omega))
  rw [h7] at HU
  go_enter Tryd.func45, Tryd.ntmps45
  go_wp2_with fail
  refine HU.out.mono ?_
  rintro e w1 ⟨rfl, h1, hk1⟩
  have hg1 := hg.keep hk1 hgr1
  have hm1 := hm.keep hk1 hnm
  have cm := hm1.cell 0 (v := .int .i64 mo) rfl
  have hE1 : Errs w1 p := hE.keep (h0.step hk1 (fun i hi => .inr (by rw [show i = gr from hi]; exact hgr)))
  have hkP : Keeps (Plus (One gg) gr) w w1 := hk1.mono (fun i hi => .inr hi)
  by_cases hc1 : mo < n
  · have hgl : ∀ k, k < 19 → gnums.getD k 0 ≠ gr := fun k hk => by have := hE.glt' hk; omega
    have HL := Lib.hid (rdList_range hE1 h1 hgl mo (by omega) n hn (by omega))
    clear hE hE1 h0
    go_wp2_with fail
    refine HL.out.mono ?_
    rintro e w2 ⟨g, rfl, hb2, hge, hk2⟩
    go_wp2
    refine ⟨rfl, .inr ⟨_, 1, g, by decide, rfl, hb2, Nat.le_trans hk1.size hge, ?_⟩, hkP.step hk2 (fun i hi => .inl (.inr hi))⟩
    unfold ListR
    rw [if_pos (.inl hc1), if_pos hc1]
    exact ⟨hg1.keep hk2 hgr1, rfl⟩
  · by_cases hc2 : len < n
    · have HL := Lib.hid (rdList_short hE1 h1 (fun w' hk' => hE.keep ((h0.step hk1 (fun i hi => .inr (by rw [show i = gr from hi]; exact hgr))).step hk' (fun i hi => .inr (by rw [show i = gr from hi]; exact hgr)))) mo (by omega) n hn (by omega) (by omega))
      clear hE hE1 h0
      go_wp2_with fail
      refine HL.out.mono ?_
      rintro e w2 ⟨g, rfl, hb2, hge, hk2⟩
      go_wp2
      refine ⟨rfl, .inr ⟨_, 2, g, by decide, rfl, hb2, Nat.le_trans hk1.size hge, ?_⟩, hkP.step hk2 (fun i hi => .inl (.inr hi))⟩
      unfold ListR
      rw [if_pos (.inr hc2), if_neg hc1]
      exact ⟨hg1.keep hk2 hgr1, rfl⟩
    · have HL := Lib.hid (rdList_ok h1 mo (by omega) (by omega) n hn (by omega) (by omega))
      have hcut : (cutL l 5 n).length = n := cutL_length l 5 n (by omega)
      clear hE hE1 h0
      go_wp2_with fail
      refine HL.out.mono ?_
      rintro e w2 ⟨a2, c2, rfl, ho2, hf2, h2, hk2⟩
      rw [show 0 + 1 + 4 = 5 from rfl] at ho2 h2 ⊢
      rw [hcut] at ho2 ⊢
      have hg2 := hg1.keep hk2 hgr1
      have cg := hg2.cell 0 (v := .slice (some ⟨g3, 0, none⟩) 3 3) rfl
      have zg := hg2.frozen 0
      have hs : Keeps (One gg) w2 (w2.setCell ⟨gg, 0, none⟩ (.slice a2 n c2)) := (Keeps.refl _ _).setOne 0 _
      have hlt := hg1.lt
      have h3 := h2.keep hs (fun k hk e => hng (by rw [← show k = gg from e]; exact hk))
      have hg3 := hg2.set 0 (.slice a2 n c2)
      have ho3 := ho2.keep hs (fun k hk e => by have h4 := hf2 k hk; rw [show k = gg from e] at h4; omega)
      go_wp2_with fail
      go_end0
      refine ⟨.inl ⟨_, _, _, rfl, h3, ?_⟩, (hkP.step hk2 (fun i hi => .inl (.inr hi))).step hs (fun i hi => .inl (.inl hi))⟩
      unfold ListR
      rw [if_neg (by omega)]
      exact ⟨a2, c2, hg3, ho3, fun k hk => by have := hf2 k hk; have := hk1.size; omega, rfl⟩

theorem cutL_append (l b : List Int) (n : Nat) : cutL (l ++ b) l.length n = b.take n := by simp [cutL]

set_option maxRecDepth 20000 in
set_option maxHeartbeats 4000000 in
theorem codeLists_walk (a0 : Option Addr) (len0 cap0 : Nat) (z0 : List Int) (a1 a2 : Int) (w : World) (w0 : IsRow .u8 w a0 len0 cap0 z0) (w1 : (Lit.int .i64 a1).wf = true) (w2 : (Lit.int .u32 a2).wf = true) {p : Nat → Addr} (hE : Errs w p) :
    Calls Tryd.prog 9 #[.slice a0 len0 cap0, .int .i64 a1, .int .u32 a2] w (TrueC w) := by
  have hmf : ∀ (fn : Fn) (first cap : Array Value) (w : World), (Instr.makeFunc fn first cap).run Tryd.prog w = .ok (.func fn first cap) w := fun _ _ _ _ => rfl
  have hr1 := i64_wf w1
  have hr2 : 0 ≤ a2 ∧ a2 ≤ 4294967295 := by simpa [Lit.wf, IntKind.min, IntKind.max, IntKind.signed, IntKind.bits] using w2
  have hrow := Row.of_isRow w0
  have hnil := w0.nil
  have hcap : len0 ≤ cap0 := by
    rcases w0 with ⟨rfl, rfl, rfl, rfl⟩ | ⟨x, rfl, hl, hm, hz, hc, hw⟩
    · exact Nat.le_refl _
    · exact hl
  clear w0 w1 w2
  generalize z0.take len0 = bs at *
  have HNil := Lib.hid hnil
  clear hnil
  have hbl := hrow.llen
  have hbb := hrow.bytes
  have hH0 := (Has.nil w).cons [.int .i64 a1] 3 rfl
  have hkA : Keeps Nil w (w.alloc (.cells #[.int .i64 a1] 3)) := (Keeps.refl Nil w).alloc _
  have hszA : (w.alloc (.cells #[.int .i64 a1] 3)).heap.size = w.heap.size + 1 := by rw [size_alloc']
  go_enter Tryd.func9, Tryd.ntmps9
  go_wp2_with fail
  refine (codefirst_walk (hE.keep hkA)).mono ?_
  rintro e wB ⟨rfl, hkB⟩
  have hHB := hH0.keep0 hkB
  have hkAB := hkA.trans hkB
  have hszB : w.heap.size + 1 ≤ wB.heap.size := by rw [← hszA]; exact hkB.size
  have cm := (hHB.at 0 rfl).cell 0 (v := .int .i64 a1) rfl
  have zm := (hHB.at 0 rfl).frozen 0
  clear hkA hkB hH0 hszA
  by_cases hlen : 40 < len0
  · go_wp2_with fail
    go_ret
    exact ⟨rfl, hkAB⟩
  go_wp2_with fail
  refine (number_walk a1 50 _ hr1.1 hr1.2 (by omega) (by omega)).mono ?_
  rintro e wx ⟨rfl, rfl⟩
  obtain ⟨mo, hmo, hmod⟩ : ∃ mo : Nat, mo < 50 ∧ a1 % 50 = mo := ⟨(a1 % 50).toNat, by omega, by omega⟩
  obtain ⟨n, rfl⟩ := Int.eq_ofNat_of_zero_le hr2.1
  rw [hmod]
  have hHC := hHB.set 0 rfl 0 (.int .i64 mo)
  have hkC : Keeps Nil w (wB.setCell ⟨w.heap.size, 0, none⟩ (.int .i64 mo)) := hkAB.setCell (p := ⟨w.heap.size, 0, none⟩) (.inr (Nat.le_refl _)) _
  have hszC : (wB.setCell ⟨w.heap.size, 0, none⟩ (.int .i64 mo)).heap.size = wB.heap.size := by simp
  have h0 : IsWr 38 ((wB.setCell ⟨w.heap.size, 0, none⟩ (.int .i64 mo)).alloc (.cells #[.slice none 0 0] 38)) wB.heap.size none 0 [] := IsWr.new _ _ _ hszC.symm
  have hk0 : Keeps Nil w ((wB.setCell ⟨w.heap.size, 0, none⟩ (.int .i64 mo)).alloc (.cells #[.slice none 0 0] 38)) := hkC.alloc _
  have hHD := hHC.keep0 ((Keeps.refl Nil _).alloc (.cells #[.slice none 0 0] 38))
  go_wp2_with fail
  generalize ((wB.setCell ⟨w.heap.size, 0, none⟩ (.int .i64 mo)).alloc (.cells #[.slice none 0 0] 38)) = wD at *
  clear cm zm hHB hkAB hHC hkC hszC
  generalize hgw : wB.heap.size = gw at *
  refine (wrU8_walk h0 7 (by simp)).mono ?_
  rintro e w1 ⟨a1_, c1, rfl, h1, hk1, hf1⟩
  have hm0 := hHD.at 0 rfl
  have hno1 : ¬ wrOf gw none w.heap.size := fun h => by
    rcases h with h | h
    · omega
    · exact blkOf_none _ h
  have hm1 := hm0.keep hk1 hno1
  have hF1 : ∀ k, wrOf gw a1_ k → w.heap.size < k := fun k hk => by
    rcases hf1 k hk with h | h
    · rcases h with rfl | h
      · omega
      · exact (blkOf_none _ h).elim
    · have := hm0.lt; omega
  have hK1 : Keeps Nil w w1 := hk0.step hk1 (fun i hi => by
    rcases hi with rfl | hi
    · exact .inr (by omega)
    · exact (blkOf_none _ hi).elim)
  clear hk0 hk1 hf1 h0 hHD hm0
  go_wp2_with fail
  refine (wrU32_walk h1 n (by omega) (by omega) (by simp)).mono ?_
  rintro e w2 ⟨a2_, c2, rfl, h2, hk2, hf2⟩
  have hK2 : Keeps Nil w w2 := hK1.step hk2 (fun i hi => .inr (Nat.le_of_lt (hF1 i hi)))
  have hm2 := hm1.keep hk2 (fun h => by have := hF1 _ h; omega)
  have hF2 : ∀ k, wrOf gw a2_ k → w.heap.size < k := fun k hk => by
    rcases hf2 k hk with h | h
    · exact hF1 k h
    · have := hm1.lt; omega
  clear hK1 hk2 hf2 hF1 h1 hm1
  go_wp2_with fail
  refine (wrRaw_walk h2 (by simp [le4]) (hrow.keep hK2) HNil.out (by omega)).mono ?_
  rintro e w3 ⟨a3, c3, rfl, h3, hk3, hf3⟩
  have hK3 : Keeps Nil w w3 := hK2.step hk3 (fun i hi => .inr (Nat.le_of_lt (hF2 i hi)))
  have hm3 := hm2.keep hk3 (fun h => by have := hF2 _ h; omega)
  clear hK2 hk3 hf3 hF2 h2 hm2
  have hL : ([] ++ [(7 : Int) % 256] ++ le4 (n : Int) ++ bs : List Int).length = 5 + len0 := by simp [le4, hbl]; omega
  have hL7 : ([] ++ [(7 : Int) % 256] ++ le4 (n : Int) ++ bs : List Int).getD 0 0 = 7 := rfl
  have hLn : num4 ([] ++ [(7 : Int) % 256] ++ le4 (n : Int) ++ bs : List Int) 1 = n := by
    simp [num4, le4, List.getD]; omega
  have hLc : ∀ k, cutL ([] ++ [(7 : Int) % 256] ++ le4 (n : Int) ++ bs : List Int) 5 k = bs.take k := fun k => cutL_append ([] ++ [(7 : Int) % 256] ++ le4 (n : Int)) bs k
  have hLb : ∀ x ∈ ([] ++ [(7 : Int) % 256] ++ le4 (n : Int) ++ bs : List Int), 0 ≤ x ∧ x < 256 := fun x hx => by
    rcases List.mem_append.1 hx with hx | hx
    · simp only [List.nil_append, List.singleton_append, List.mem_cons] at hx
      rcases hx with rfl | hx
      · omega
      · exact le4_bytes n (by omega) (by omega) x hx
    · exact hbb x hx
  generalize ([] ++ [(7 : Int) % 256] ++ le4 (n : Int) ++ bs : List Int) = l at *
  go_wp2_with fail
  refine (wrBytes_walk h3 (by omega) hLb).mono ?_
  rintro e w4 ⟨a4, c4, rfl, ho4, hk4, hf4⟩
  have hK4 := hK3.trans hk4
  have hm4 := hm3.keep0 hk4
  clear hK3 hk4 hf4 h3 hm3
  rw [hL] at ho4 ⊢
  obtain ⟨b4, rfl, hb4, hr4⟩ := ho4.some (by omega)
  have hrow4 := ho4.row (l := l) (fun x hx => by have := hLb x hx; simp [Lit.wf, IntKind.min, IntKind.max, IntKind.signed, IntKind.bits]; omega)
  clear hr4 ho4
  have hkX : Keeps Nil w4 ((w4.alloc (.cells #[.int .u8 1, .int .u8 2, .int .u8 3] 5)).alloc (.cells #[.slice (some ⟨w4.heap.size, 0, none⟩) 3 3] 36)) := ((Keeps.refl Nil w4).alloc _).alloc _
  have hszX : ((w4.alloc (.cells #[.int .u8 1, .int .u8 2, .int .u8 3] 5)).alloc (.cells #[.slice (some ⟨w4.heap.size, 0, none⟩) 3 3] 36)).heap.size = w4.heap.size + 2 := by rw [size_alloc', size_alloc']
  have hgX := Blk.new' (w4.alloc (.cells #[.int .u8 1, .int .u8 2, .int .u8 3] 5)) [.slice (some ⟨w4.heap.size, 0, none⟩) 3 3] 36 (n := w4.heap.size + 1) (by rw [size_alloc'])
  go_wp2_with (refine wpList_bs rfl 36 5 3 _ rfl [.int .u8 1, .int .u8 2, .int .u8 3] Tryd.underlying36 Tryd.bs8 rfl (by decide) (by decide) rfl (by simp [Value.cells]) ?_)
  go_wp2_with fail
  change Calls _ _ _ ((w4.alloc (.cells #[.int .u8 1, .int .u8 2, .int .u8 3] 5)).alloc (.cells #[.slice (some ⟨w4.heap.size, 0, none⟩) 3 3] 36)) _
  generalize ((w4.alloc (.cells #[.int .u8 1, .int .u8 2, .int .u8 3] 5)).alloc (.cells #[.slice (some ⟨w4.heap.size, 0, none⟩) 3 3] 36)) = wX at *
  have hmX := hm4.keep0 hkX
  have hs4 := hm4.lt
  have hrowX := hrow4.keep hkX
  have hkW := hK4.trans hkX
  clear hrow4 hm4 hkX hK4
  generalize hgg : w4.heap.size + 1 = gg at *
  generalize hg3 : w4.heap.size = g3 at *
  generalize hgm : w.heap.size = gm at *
  refine (lawRead_walk 45 #[.pointer (some ⟨gm, 0, none⟩), .pointer (some ⟨gg, 0, none⟩)] wX (fun _ _ => by kernel_rfl) hE hkW hrowX (fun h => by cases h) (by omega) (S := One gg) (fun k hk => by rw [show k = gg from hk]; omega) (R := fun c => ListR g3 gg mo n len0 l c)
    (fun c w5 gr ar cr h5 hc1 hc2 hold hne hrd => ?_)).mono ?_
  · exact codeListsIn_walk hE (hkW.trans h5) hL hL7 hLn hmo (by omega) hc2 (hmX.keep0 h5) (hgX.keep0 h5) hrd (by have := hold gr (.inl rfl); omega) (fun h => by have := hold _ h; omega) (by have := hold gr (.inl rfl); omega)
  rintro e w6 ⟨o, v, c, w7, rfl, hI, hfr, hR, hup, hk6, hc⟩
  have hm6 := hmX.keep hk6 (fun h => by have : gm = gg := h; omega)
  have hkZ : Keeps Nil w w6 := hkW.step hk6 (fun i hi => .inr (by rw [show i = gg from hi]; omega))
  clear hk6 hkW hmX hgX hrowX
  rw [hL] at hI
  go_wp2_with fail
  refine (fault_walk (hE.keep hkZ) hI).mono ?_
  rintro e w8 ⟨rfl, hk8⟩
  generalize hfc : outC (5 + len0) o = fc at *
  generalize hfp : outP (5 + len0) o = fp at *
  generalize hfq : outQ (5 + len0) o = fq at *
  have hka : Keeps Nil w6 (w8.alloc (.cells #[.int .i64 fc, .bool fp, .int .i64 fq] 57)) := hk8.alloc _
  have hfB := Blk.new w8 [.int .i64 fc, .bool fp, .int .i64 fq] 57
  have hIz := hI.keep hka
  have hkz := hkZ.trans hka
  have cmz := (hm6.keep0 hka).cell 0 (v := .int .i64 mo) rfl
  clear hkZ hI hfr
  by_cases hc1 : mo < n
  · unfold ListR at hR
    rw [if_pos (.inl hc1), if_pos hc1] at hR
    obtain ⟨hg7, rfl⟩ := hR
    have hgz := (hg7.keep hup (fun hi => by have := hi.1; omega)).keep0 hka
    have cgz := hgz.cell 0 rfl
    clear hk8 hka hg7 hup
    go_wp2_with fail
    refine (placed_walk 102 1 _ (by omega)).mono ?_
    rintro e w9 ⟨rfl, hk9⟩
    go_wp2_with fail
    refine (same_walk (hE.keep (hkz.trans hk9)) (hIz.keep hk9) _ _ _).mono ?_
    rintro e w10 ⟨rfl, hk10⟩
    have cg10 := (hk9.trans hk10).cell cgz (fun h => h)
    have hS : sameF fc fp fq 102 true 1 = true := by rw [← hfc, ← hfp, ← hfq]; simp [sameF, outC, outP, outQ]
    rw [hS]
    go_wp2_with fail
    go_ret
    exact ⟨by simp, hkz.trans (hk9.trans hk10)⟩
  by_cases hc2 : len0 < n
  · unfold ListR at hR
    rw [if_pos (.inr hc2), if_neg hc1] at hR
    obtain ⟨hg7, rfl⟩ := hR
    have hgz := (hg7.keep hup (fun hi => by have := hi.1; omega)).keep0 hka
    have cgz := hgz.cell 0 rfl
    clear hk8 hka hg7 hup
    go_wp2_with fail
    refine (placed_walk 103 1 _ (by omega)).mono ?_
    rintro e w9 ⟨rfl, hk9⟩
    go_wp2_with fail
    refine (same_walk (hE.keep (hkz.trans hk9)) (hIz.keep hk9) _ _ _).mono ?_
    rintro e w10 ⟨rfl, hk10⟩
    have cg10 := (hk9.trans hk10).cell cgz (fun h => h)
    have hS : sameF fc fp fq 103 true 1 = true := by rw [← hfc, ← hfp, ← hfq]; simp [sameF, outC, outP, outQ]
    rw [hS]
    go_wp2_with fail
    go_ret
    exact ⟨by simp, hkz.trans (hk9.trans hk10)⟩
  unfold ListR at hR
  rw [if_neg (by omega), hLc] at hR
  obtain ⟨a7, c7, hg7, ho7, hf7, rfl⟩ := hR
  have hgz := (hg7.keep hup (fun hi => by have := hi.1; omega)).keep0 hka
  have hoz := (ho7.keep hup (fun k hk hi => by have := hi.2; have := hf7 k hk; omega)).keep0 hka
  have cgz := hgz.cell 0 rfl
  have hrowz := hrow.keep hkz
  have htk : (bs.take n).length = n := by simp; omega
  have hwf : ∀ x ∈ bs.take n, (Lit.int .u8 x).wf = true := fun x hx => hrow.wf x (List.mem_of_mem_take hx)
  have hoz' : Own (w8.alloc (.cells #[.int .i64 fc, .bool fp, .int .i64 fq] 57)) 5 1 a7 c7 (bs.take n).length (byteV (bs.take n)) := by rw [htk]; exact hoz
  have hrowg := hoz'.row hwf
  rw [htk] at hrowg
  clear hoz'
  clear hk8 hka hg7 hup ho7 hf7
  by_cases hc3 : n < len0
  · have h104 : fc = 104 := by rw [← hfc]; simp [outC, hc3]
    have hq5 : fq = 5 + (n : Int) := by rw [← hfq]; simp [outQ, hc3]
    subst h104 hq5
    clear hfc hfq
    cases a0 with
    | none => have := (HNil.out rfl).2; omega
    | some ad =>
      obtain ⟨b0, off0, sp0⟩ := ad
      have f0 := hfB.cell 0 (v := .int .i64 104) rfl
      have f2 := hfB.cell 2 (v := .int .i64 (5 + (n : Int))) rfl
      have hrows : Row .u8 (w8.alloc (.cells #[.int .i64 104, .bool fp, .int .i64 (5 + (n : Int))] 57)) (some ⟨b0, off0, sp0⟩) n (bs.take n) :=
        ⟨htk, by have := hrowz.most; omega, fun h0 => by
          obtain ⟨b, off, ha, hb, hcc⟩ := hrowz.cell (by omega)
          refine ⟨b, off, ha, hb, fun i hi => ?_⟩
          rw [hcc i (by omega)]
          simp [List.getD, hi], hwf⟩
      have hcvt : IntKind.i64.wrap (n : Int) = n := by rw [IntKind.wrap_i64]; omega
      have hadd : IntKind.i64.wrap (5 + (n : Int)) = 5 + (n : Int) := by rw [IntKind.wrap_i64]; omega
      have hn0 : (0 : Int) ≤ n := by omega
      have hn1 : (n : Int) ≤ len0 := by omega
      have hn2 : (n : Int) ≤ cap0 := by omega
      have hn3 : n ≤ cap0 := by omega
      clear hrow hE HNil hrowz
      have HR := Lib.hid (And.intro hrowg hrows)
      have HK := Lib.hid hkz
      clear hrowg hrows hkz hIz hoz hgz hwf htk hL hLn hL7 hLc hLb
      go_wp2_with fail
      generalize w8.heap.size = gf at *
      generalize (w8.alloc (.cells #[.int .i64 104, .bool fp, .int .i64 (5 + (n : Int))] 57)) = wz at *
      go_region_held3 (fun w' => w'.cell? ⟨gf, 0, none⟩ = some (.int .i64 104) ∧ w'.cell? ⟨gf, 2, none⟩ = some (.int .i64 (5 + (n : Int))) ∧ w'.cell? ⟨gg, 0, none⟩ = some (.slice a7 n c7)) (first | go_keep | exact ⟨hkB.cell f0 (fun h => h), hkB.cell f2 (fun h => h), hkB.cell cgz (fun h => h)⟩ | exact ⟨f0, f2, cgz⟩) (first | (go_at_call 34; refine (sameBytes_walk (HR.out.1.keep (Keeps.refl Nil _).drew) (HR.out.2.keep (Keeps.refl Nil _).drew)).mono ?_; rintro e w9 ⟨rfl, hd9⟩; have hkB := (Keeps.refl Nil wz).drew.trans (hd9.keeps Nil)))
      go_wp2
      go_ret
      refine ⟨?_, HK.out.trans hkB⟩
      rw [sameL_refl]
      simp
  · obtain rfl : n = len0 := by omega
    obtain rfl := hIz.none (by rw [← hfc]; simp [outC])
    have hbt : bs.take n = bs := List.take_of_length_le (by omega)
    rw [hbt] at hrowg
    go_wp2_with fail
    refine (sameBytes_walk hrowg hrowz).mono ?_
    rintro e w9 ⟨rfl, hd9⟩
    rw [sameL_refl]
    go_wp2_with fail
    go_ret
    exact ⟨by simp, hkz.trans (hd9.keeps Nil)⟩
end Go.Proofs.YtdkfhfflhglmaaaDoor
