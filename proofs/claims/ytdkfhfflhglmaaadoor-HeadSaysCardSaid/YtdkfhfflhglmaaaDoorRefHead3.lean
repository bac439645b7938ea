/-
  The document's header: Cut, Header.
-/
import Derived.Test.YtdkfhfflhglmaaaDoorRefHead2
import Derived.Test.YtdkfhfflhglmaaaDoorCodeWriters
namespace Go.Proofs.YtdkfhfflhglmaaaDoor
set_option linter.unusedSimpArgs false
set_option linter.unusedVariables false
open Go.RowKit

theorem Row.takeH {k : IntKind} {w : World} {a : Option Addr} {n : Nat} {l : List Int} (h : Row k w a n l) {m : Nat} (hm : m ≤ n) : Row k w a m (l.take m) :=
  ⟨by rw [List.length_take, h.llen]; omega, by have := h.most; omega, fun h0 => by
    obtain ⟨b, off, ha, hb, hc⟩ := h.cell (by omega)
    exact ⟨b, off, ha, hb, fun i hi => by rw [hc i (by omega)]; simp [List.getD, hi]⟩, fun x hx => h.wf x (List.mem_of_mem_take hx)⟩
theorem Row.tailH {k : IntKind} {w : World} {ad : Addr} {n : Nat} {l : List Int} (h : Row k w (some ad) n l) (m : Nat) (hm : m ≤ n) : Row k w (some (ad.add m)) (n - m) (l.drop m) :=
  ⟨by rw [List.length_drop, h.llen], by have := h.most; omega, fun h0 => by
    obtain ⟨b, off, ha, hb, hc⟩ := h.cell (by omega)
    cases ha
    refine ⟨b, off + m, by rw [Addr.add_lit], hb, fun i hi => ?_⟩
    rw [Nat.add_assoc, hc (m + i) (by omega)]
    simp [List.getD], fun x hx => h.wf x (List.mem_of_mem_drop hx)⟩
theorem ret_blktb {P : Program} {fn : Func} {R : Ending → World → Prop} {a : Act} {w : World} {p u q : Tmp} {ty ty' : TypeId} (h : fn.results = #[.cell p ty, .tmp u, .cell q ty']) (g g' : Nat) (hp : a.tmps.getD p undef = .pointer (some ⟨g, 0, none⟩)) (hq : a.tmps.getD q undef = .pointer (some ⟨g', 0, none⟩))
    {cs cs' : List Value} {T T' : TypeId} (hb : Blk w g cs T) (hb' : Blk w g' cs' T') (d d' : TypeDesc) (hu : P.underlying ty = some d) (hu' : P.underlying ty' = some d') (hd : d.isRow = true) (hd' : d'.isRow = true) (hi : (P.info? ty).map (·.size) = some cs.length) (hi' : (P.info? ty').map (·.size) = some cs'.length) {x : Value} (hx : a.tmps.getD u undef = x) (hdf : a.defers = [])
    (hR : R (.returned (.tuple #[.agg cs.toArray, x, .agg cs'.toArray])) w) : bodyPost P fn R .ret a w := by
  have hp' : a.tmps[p]?.getD undef = .pointer (some ⟨g, 0, none⟩) := by simpa using hp
  have hq' : a.tmps[q]?.getD undef = .pointer (some ⟨g', 0, none⟩) := by simpa using hq
  have hx' : a.tmps[u]?.getD undef = x := by simpa using hx
  refine bodyPost_ret (v := .tuple #[.agg cs.toArray, x, .agg cs'.toArray]) ?_ hdf hR
  simp [results, h, hp', hq', hx', asAddr, run_loadVar_row w g T ty cs.toArray (0, 0) d hb hu (by cases d <;> first | rfl | cases hd) (by simpa using hi), run_loadVar_row w g' T' ty' cs'.toArray (0, 0) d' hb' hu' (by cases d' <;> first | rfl | cases hd') (by simpa using hi')]
/-- What Cut hands back. -/
def RCutPost (l : List Int) (w : World) (e : Ending) (w' : World) : Prop :=
  ∃ a cap, e = .returned (.tuple #[.agg (readH (l.take 40)).toArray, .slice a (l.drop 40).length cap, faultV (readC (l.take 40).length) (readP (l.take 40).length) (readQ (l.take 40).length)]) ∧ Row .u8 w' a (l.drop 40).length (l.drop 40) ∧ Keeps Nil w w'
set_option maxRecDepth 20000 in
set_option maxHeartbeats 3200000 in
theorem refCut_walk {w : World} {a : Option Addr} {len capb : Nat} {l : List Int} (hrow : Row .u8 w a len l) (hnil : a = none → capb = 0 ∧ len = 0) (hcap : len ≤ capb) (hlen : len ≤ 100000) :
    Calls Tryd.prog 63 #[.slice a len capb] w (RCutPost l w) := by
  have hl := hrow.llen
  obtain ⟨n, hn⟩ : ∃ n, n = min len 40 := ⟨_, rfl⟩
  have hnl : (l.take 40).length = n := by rw [List.length_take, hl, hn]; omega
  obtain ⟨zh, hzh⟩ : ∃ zh, zh = zeroH := ⟨_, rfl⟩
  have hz34 : zh.length = 34 := by rw [hzh]; exact headV_len zk 0 0 zk_len
  have HZ := Lib.hid (And.intro hzh hz34)
  have hzv : ∀ w, (zeroValue 76).run Tryd.prog w = .ok (.agg zh.toArray) w := by rw [hzh]; exact Tryd.zeroHead
  obtain ⟨wA, g2, hg2, hb2, hwA, hkA⟩ := alloc1H w zh 76
  obtain ⟨wB, g4, hg4, hb4, hwB, hkB⟩ := alloc1H wA [.int .i64 0, .bool false, .int .i64 0] 57
  have HWA : Hid (w.alloc (.cells zh.toArray 76) = wA) := Lib.hid hwA.symm
  have HWB : Hid (wA.alloc (.cells #[.int .i64 0, .bool false, .int .i64 0] 57) = wB) := Lib.hid hwB.symm
  have hlt2 := hb2.lt
  have hg4e : w.heap.size + 1 = g4 := by rw [hg4, hwA]; simp
  have HG2 := Lib.hid hg2.symm
  have HG4 := Lib.hid hg4e
  have hrB := (hrow.keep hkA).keep hkB
  have hrT : Row .u8 wB a n (l.take 40) := by
    have := hrB.takeH (by omega : n ≤ len)
    rw [show l.take n = l.take 40 by rw [hn]; rcases Nat.le_total len 40 with h | h
                                     · rw [Nat.min_eq_left h, List.take_of_length_le (by omega), List.take_of_length_le (by omega)]
                                     · rw [Nat.min_eq_right h]] at this
    exact this
  have HRH := Lib.hid (readHeader_walk (capb := capb) hrT (fun e => by have := hnil e; omega) (by omega) (by omega))
  have hne : g2 ≠ g4 ∧ w.heap.size ≤ g2 ∧ w.heap.size ≤ g4 := by omega
  have HNE := Lib.hid hne
  have HB := Lib.hid (And.intro (hb2.keep0 hkB) (And.intro hb4 (And.intro (hkA.trans hkB) hrB)))
  have hn0 : (0 : Int) ≤ n := by omega
  have hnc : (n : Int) ≤ capb := by omega
  clear hb2 hb4 hwA hwB hkA hkB hg2 hg4 hg4e hrB hrT hne hlt2 hzh hz34
  obtain ⟨H, hH⟩ : ∃ H, H = readH (l.take 40) := ⟨_, rfl⟩
  have h34 : H.length = 34 := by
    rw [hH]; unfold readH
    by_cases h : (l.take 40).length = 40
    · rw [if_pos h]; exact headV_len _ _ _ (by rw [List.length_take]; omega)
    · rw [if_neg h]; exact headV_len zk 0 0 zk_len
  have h1c : ∀ v ∈ H, v.oneCell' = true := by
    rw [hH]; unfold readH
    by_cases h : (l.take 40).length = 40
    · rw [if_pos h]; exact headV_one _ _ _
    · rw [if_neg h]; exact headV_one zk 0 0
  have HHI : Hid ((Tryd.prog.info? 76).map (·.size) = some H.length) := Lib.hid (by rw [h34]; exact Tryd.infoHead)
  have HHL : Hid (H.length = zh.length) := Lib.hid (by rw [h34, HZ.out.2])
  have HH1 := Lib.hid h1c
  obtain ⟨FC, hFC⟩ : ∃ F, F = readC (l.take 40).length := ⟨_, rfl⟩
  obtain ⟨FP, hFP⟩ : ∃ F, F = readP (l.take 40).length := ⟨_, rfl⟩
  obtain ⟨FQ, hFQ⟩ : ∃ F, F = readQ (l.take 40).length := ⟨_, rfl⟩
  have HR := Lib.hid (show ∀ e w', RHeadPost (l.take 40) wB e w' → e = .returned (.tuple #[.agg H.toArray, .agg #[.int .i64 FC, .bool FP, .int .i64 FQ]]) ∧ Keeps Nil wB w' from fun e w' ⟨h1, h2⟩ => ⟨by rw [h1, hH, hFC, hFP, hFQ], h2⟩)
  have HFIN := Lib.hid (show ∀ (w' : World) a cap m, m = (l.drop 40).length → Row .u8 w' a (l.drop 40).length (l.drop 40) → Keeps Nil w w' → RCutPost l w (.returned (.tuple #[.agg H.toArray, .slice a m cap, .agg #[.int .i64 FC, .bool FP, .int .i64 FQ]])) w' from fun w' a cap m hm hr hk => ⟨a, cap, by rw [hH, hFC, hFP, hFQ, hm], hr, hk⟩)
  have hfc : FC = if n < 40 then 103 else 0 := by
    rw [hFC, hnl]; unfold readC
    by_cases h : n = 40
    · rw [if_pos h, if_neg (by omega)]
    · rw [if_neg h, if_pos (by omega), if_pos (by omega)]
  have HDL : Hid ((l.drop 40).length = len - 40) := Lib.hid (by rw [List.length_drop, hl])
  clear h34 h1c hH hFC hFP hFQ hnl
  by_cases h40 : len < 40
  · have hne40 : n = len := by omega
    clear hn
    subst hne40
    rw [if_pos h40] at hfc
    have hfcb : (FC != 0) = true := by rw [hfc]; rfl
    have hle : (n : Int) ≤ 40 := by omega
    clear hfc
    go_enter Tryd.func63, Tryd.ntmps63
    go_upto_region 1 with fail
    rw [HG4.out, HG2.out, HWA.out, HWB.out]
    go_wp2_with fail
    refine HRH.out.mono ?_
    intro e w1 hpost
    obtain ⟨rfl, hk1⟩ := HR.out e w1 hpost
    clear hpost
    have HK1 := Lib.hid hk1
    clear hk1
    go_wp2_with (refine wpl_store rfl 76 _ _ rfl w1.heap.size rfl H rfl ((Blk.new w1 zh _).alloc _) HHL.out HHI.out HH1.out ?_)
    intro w2 hb2 hk2 hs2
    clear hs2
    have hf2 : Blk w2 (w1.heap.size + 1) [.int .i64 0, .bool false, .int .i64 0] 57 := (Blk.new' (w1.alloc (.cells zh.toArray 76)) _ _ (by simp)).keep hk2 (fun e => by have : w1.heap.size + 1 = w1.heap.size := e; omega)
    have hk12 : Keeps Nil w1 w2 := (((Keeps.refl Nil w1).alloc _).alloc _).step hk2 (fun i hi => .inr (by rw [show i = w1.heap.size from hi]; exact Nat.le_refl _))
    have HB2 := Lib.hid (And.intro hb2 (And.intro hf2 hk12))
    clear hb2 hk2 hf2 hk12
    go_wp2_with (refine wpl_store rfl 57 _ _ rfl (w1.heap.size + 1) rfl [.int .i64 FC, .bool FP, .int .i64 FQ] rfl HB2.out.2.1 rfl Tryd.sizeFault (by intro v hv; simp at hv; rcases hv with rfl | rfl | rfl <;> rfl) ?_)
    intro w3 hb3 hk3 hs3
    clear hs3
    have hb6 := HB2.out.1.keep hk3 (fun e => by have : w1.heap.size = w1.heap.size + 1 := e; omega)
    have hk13 := HB2.out.2.2.step hk3 (fun i hi => .inr (by rw [show i = w1.heap.size + 1 from hi]; omega))
    have hkB3 := HK1.out.trans hk13
    obtain ⟨g6, hg6⟩ : ∃ g6, w1.heap.size = g6 := ⟨_, rfl⟩
    rw [hg6] at hb6 hb3 ⊢
    obtain ⟨g7, hg7⟩ : ∃ g7, g6 + 1 = g7 := ⟨_, rfl⟩
    rw [hg7] at hb3 ⊢
    have hsB : wB.heap.size ≤ g6 := by rw [← hg6]; exact HK1.out.size
    have H3 := Lib.hid (And.intro hb6 (And.intro hb3 (And.intro (HB.out.1.keep0 hkB3) (And.intro (HB.out.2.1.keep0 hkB3) (And.intro (HB.out.2.2.1.trans hkB3) (HB.out.2.2.2.keep hkB3))))))
    have HN6 := Lib.hid (show g6 ≠ g2 ∧ g6 ≠ g4 ∧ g7 ≠ g2 ∧ g7 ≠ g4 by have := HB.out.1.lt; have := HB.out.2.1.lt; omega)
    clear hb6 hk3 hk13 hkB3 hb3 hg6 hg7 hsB HB2
    have hFc0 := H3.out.2.1.cell 0 rfl
    have hFc1 := H3.out.2.1.cell 1 rfl
    have hFc2 := H3.out.2.1.cell 2 rfl
    go_wp2_with fail
    refine (bad_walk FC FP FQ w3).mono ?_
    rw [hfcb]
    rintro e w9 ⟨rfl, hk9⟩
    have H9 := Lib.hid (And.intro (H3.out.1.keep0 hk9) (And.intro (H3.out.2.1.keep0 hk9) (And.intro (H3.out.2.2.1.keep0 hk9) (And.intro (H3.out.2.2.2.1.keep0 hk9) (H3.out.2.2.2.2.1.trans hk9)))))
    have hIF := Tryd.sizeFault
    obtain ⟨fsF, hUF⟩ := Tryd.undFault
    have hUH := Tryd.underlying76
    have hIH := HHI.out
    have hLH := HHL.out
    have hOH := HH1.out
    clear hk9 H3 hFc0 hFc1 hFc2
    go_upto_region 4 with fail
    refine wp_region_held_drew (S := fun w' => w'.rangeAt g6 0 H ∧ w'.rangeAt g7 0 [.int .i64 FC, .bool FP, .int .i64 FQ]) (by kernel_rfl) ⟨H9.out.1.range0, H9.out.2.1.range0⟩ (fun hHeld => ?_)
    have hkd : Keeps Nil w9 w9.drew := (Keeps.refl Nil w9).drew
    have H10 := Lib.hid (And.intro (H9.out.1.keep0 hkd) (And.intro (H9.out.2.1.keep0 hkd) (And.intro (H9.out.2.2.1.keep0 hkd) (And.intro (H9.out.2.2.2.1.keep0 hkd) (H9.out.2.2.2.2.trans hkd)))))
    clear hkd H9
    generalize w9.drew = v0 at *
    refine takeL (i := 0) (v := _) rfl (by kernel_rfl) (by kernel_rfl) (by kernel_rfl) (fun _ _ _ h => h) (yieldsIf_load_mid (by rfl) 76 _ rfl g6 0 rfl (H) _ (fun w hSw => hSw.1) hUH rfl hIH) (by assumption) ?_
    try simp only [Act.put, List.setIfInBounds_toArray, List.set_cons_zero, List.set_cons_succ]
    refine takeL (i := 1) (v := _) rfl (by kernel_rfl) (by kernel_rfl) (by kernel_rfl) (fun _ _ _ h => h) (yieldsIf_load_mid (by rfl) 57 _ rfl g7 0 rfl ([.int .i64 FC, .bool FP, .int .i64 FQ]) _ (fun w hSw => hSw.2) hUF rfl hIF) (by assumption) ?_
    try simp only [Act.put, List.setIfInBounds_toArray, List.set_cons_zero, List.set_cons_succ]
    refine onlyL (i := 2) rfl (by kernel_rfl) (fun K hK => ?_)
    refine step_store rfl 76 _ _ rfl g2 rfl H rfl H10.out.2.2.1 hLH hIH hOH ?_
    intro w10 hb10 hk10 hs10
    have hd3 := H10.out.2.2.2.1.keep hk10 (fun e => HNE.out.1 (show g4 = g2 from e).symm)
    have h6 := H10.out.1.keep hk10 (fun e => HN6.out.1 (show g6 = g2 from e))
    have h7 := H10.out.2.1.keep hk10 (fun e => HN6.out.2.2.1 (show g7 = g2 from e))
    have hk10w := H10.out.2.2.2.2.step hk10 (fun i hi => .inr (by rw [show i = g2 from hi]; exact HNE.out.2.1))
    refine (fun hHeld => hK _ _ hHeld ?_) (⟨h6.range0, h7.range0⟩)
    clear hK
    try simp only [Act.put, List.setIfInBounds_toArray, List.set_cons_zero, List.set_cons_succ]
    refine takeL (i := 3) (v := _) rfl (by kernel_rfl) (by kernel_rfl) (by kernel_rfl) (fun _ _ _ h => h) (Or.inl ⟨by rfl, by intro w hSw; (try dsimp only at hSw); go_simp; try with_reducible rfl⟩) (by assumption) ?_
    try simp only [Act.put, List.setIfInBounds_toArray, List.set_cons_zero, List.set_cons_succ]
    refine onlyL (i := 4) rfl (by kernel_rfl) (fun K hK => ?_)
    refine step_store rfl 57 _ _ rfl g4 rfl [.int .i64 FC, .bool FP, .int .i64 FQ] rfl hd3 rfl hIF (by intro v hv; simp at hv; rcases hv with rfl | rfl | rfl <;> rfl) ?_
    intro w11 hb11 hk11 hs11
    have hc10 := hb10.keep hk11 (fun e => HNE.out.1 (show g2 = g4 from e))
    have hkF := hk10w.step hk11 (fun i hi => .inr (by rw [show i = g4 from hi]; exact HNE.out.2.2))
    refine (fun hHeld => hK _ _ hHeld ?_) (⟨(h6.keep hk11 (fun e => HN6.out.2.1 (show g6 = g4 from e))).range0, (h7.keep hk11 (fun e => HN6.out.2.2.2 (show g7 = g4 from e))).range0⟩)
    clear hK
    try simp only [Act.put, List.setIfInBounds_toArray, List.set_cons_zero, List.set_cons_succ]
    refine wpAnyH_done (by kernel_rfl) ?_ _
    clear hHeld hs10 hs11 hd3 h6 h7 hk10w
    go_wp2_with fail
    have hd0 : l.drop 40 = [] := by rw [List.drop_eq_nil_iff]; omega
    refine ret_blktb Tryd.results63 g2 g4 rfl rfl hc10 hb11 _ _ hUH hUF rfl rfl hIH hIF rfl rfl (HFIN.out _ none 0 0 (by rw [hd0]; rfl) (by rw [hd0]; exact ⟨rfl, by simp, fun h => by simp at h, fun x hx => by cases hx⟩) hkF)
  · have hne40 : n = 40 := by omega
    clear hn
    subst hne40
    rw [if_neg (by omega)] at hfc
    have hfcb : (FC != 0) = false := by rw [hfc]; rfl
    clear hfc
    by_cases hle40 : len = 40
    · subst hle40
      have hd0 : l.drop 40 = [] := by rw [List.drop_eq_nil_iff]; omega
      have hrowe : ∀ (w' : World) (a' : Option Addr), Row .u8 w' a' 0 (l.drop 40) := fun w' a' => by rw [hd0]; exact ⟨rfl, by simp, fun h => by simp at h, fun x hx => by cases hx⟩
      have HRE := Lib.hid hrowe
      clear hd0 hrowe
      by_cases hc40 : capb = 40
      · subst hc40
        go_enter Tryd.func63, Tryd.ntmps63
        go_upto_region 1 with fail
        rw [HG4.out, HG2.out, HWA.out, HWB.out]
        go_wp2_with fail
        refine HRH.out.mono ?_
        intro e w1 hpost
        obtain ⟨rfl, hk1⟩ := HR.out e w1 hpost
        clear hpost
        have HK1 := Lib.hid hk1
        clear hk1
        go_wp2_with (refine wpl_store rfl 76 _ _ rfl w1.heap.size rfl H rfl ((Blk.new w1 zh _).alloc _) HHL.out HHI.out HH1.out ?_)
        intro w2 hb2 hk2 hs2
        clear hs2
        have hf2 : Blk w2 (w1.heap.size + 1) [.int .i64 0, .bool false, .int .i64 0] 57 := (Blk.new' (w1.alloc (.cells zh.toArray 76)) _ _ (by simp)).keep hk2 (fun e => by have : w1.heap.size + 1 = w1.heap.size := e; omega)
        have hk12 : Keeps Nil w1 w2 := (((Keeps.refl Nil w1).alloc _).alloc _).step hk2 (fun i hi => .inr (by rw [show i = w1.heap.size from hi]; exact Nat.le_refl _))
        have HB2 := Lib.hid (And.intro hb2 (And.intro hf2 hk12))
        clear hb2 hk2 hf2 hk12
        go_wp2_with (refine wpl_store rfl 57 _ _ rfl (w1.heap.size + 1) rfl [.int .i64 FC, .bool FP, .int .i64 FQ] rfl HB2.out.2.1 rfl Tryd.sizeFault (by intro v hv; simp at hv; rcases hv with rfl | rfl | rfl <;> rfl) ?_)
        intro w3 hb3 hk3 hs3
        clear hs3
        have hb6 := HB2.out.1.keep hk3 (fun e => by have : w1.heap.size = w1.heap.size + 1 := e; omega)
        have hk13 := HB2.out.2.2.step hk3 (fun i hi => .inr (by rw [show i = w1.heap.size + 1 from hi]; omega))
        have hkB3 := HK1.out.trans hk13
        obtain ⟨g6, hg6⟩ : ∃ g6, w1.heap.size = g6 := ⟨_, rfl⟩
        rw [hg6] at hb6 hb3 ⊢
        obtain ⟨g7, hg7⟩ : ∃ g7, g6 + 1 = g7 := ⟨_, rfl⟩
        rw [hg7] at hb3 ⊢
        have hsB : wB.heap.size ≤ g6 := by rw [← hg6]; exact HK1.out.size
        have H3 := Lib.hid (And.intro hb6 (And.intro hb3 (And.intro (HB.out.1.keep0 hkB3) (And.intro (HB.out.2.1.keep0 hkB3) (And.intro (HB.out.2.2.1.trans hkB3) (HB.out.2.2.2.keep hkB3))))))
        have HN6 := Lib.hid (show g6 ≠ g2 ∧ g6 ≠ g4 ∧ g7 ≠ g2 ∧ g7 ≠ g4 by have := HB.out.1.lt; have := HB.out.2.1.lt; omega)
        clear hb6 hk3 hk13 hkB3 hb3 hg6 hg7 hsB HB2
        have hFc0 := H3.out.2.1.cell 0 rfl
        have hFc1 := H3.out.2.1.cell 1 rfl
        have hFc2 := H3.out.2.1.cell 2 rfl
        go_wp2_with fail
        have HTR := Lib.hid (fun w' (_ : Keeps Nil w3 w') => HRE.out w' a)
        refine (bad_walk FC FP FQ w3).mono ?_
        rw [hfcb]
        rintro e w9 ⟨rfl, hk9⟩
        have H9 := Lib.hid (And.intro (H3.out.1.keep0 hk9) (And.intro (H3.out.2.1.keep0 hk9) (And.intro (H3.out.2.2.1.keep0 hk9) (And.intro (H3.out.2.2.2.1.keep0 hk9) (And.intro (H3.out.2.2.2.2.1.trans hk9) (HTR.out w9 hk9))))))
        have hIF := Tryd.sizeFault
        obtain ⟨fsF, hUF⟩ := Tryd.undFault
        have hUH := Tryd.underlying76
        have hIH := HHI.out
        have hLH := HHL.out
        have hOH := HH1.out
        clear hk9 H3 hFc0 hFc1 hFc2 HTR
        go_upto_region 5 with fail
        refine wp_region_held_drew (S := fun w' => w'.rangeAt g6 0 H ∧ w'.rangeAt g7 0 [.int .i64 FC, .bool FP, .int .i64 FQ]) (by kernel_rfl) ⟨H9.out.1.range0, H9.out.2.1.range0⟩ (fun hHeld => ?_)
        have hkd : Keeps Nil w9 w9.drew := (Keeps.refl Nil w9).drew
        have H8 := Lib.hid (And.intro (H9.out.1.keep0 hkd) (And.intro (H9.out.2.1.keep0 hkd) (And.intro (H9.out.2.2.1.keep0 hkd) (And.intro (H9.out.2.2.2.1.keep0 hkd) (And.intro (H9.out.2.2.2.2.1.trans hkd) (H9.out.2.2.2.2.2.keep hkd))))))
        clear hkd H9
        generalize w9.drew = v0 at *
        refine takeL (i := 0) (v := _) rfl (by kernel_rfl) (by kernel_rfl) (by kernel_rfl) (fun _ _ _ h => h) (yieldsIf_load_mid (by rfl) 76 _ rfl g6 0 rfl (H) _ (fun w hSw => hSw.1) hUH rfl hIH) (by assumption) ?_
        try simp only [Act.put, List.setIfInBounds_toArray, List.set_cons_zero, List.set_cons_succ]
        refine takeL (i := 1) (v := _) rfl (by kernel_rfl) (by kernel_rfl) (by kernel_rfl) (fun _ _ _ h => h) (Or.inl ⟨by rfl, by intro w hSw; (try dsimp only at hSw); go_simp; try with_reducible rfl⟩) (by assumption) ?_
        try simp only [Act.put, List.setIfInBounds_toArray, List.set_cons_zero, List.set_cons_succ]
        refine takeL (i := 2) (v := _) rfl (by kernel_rfl) (by kernel_rfl) (by kernel_rfl) (fun _ _ _ h => h) (Or.inl ⟨by rfl, by intro w hSw; (try dsimp only at hSw); go_simp; try with_reducible rfl⟩) (by assumption) ?_
        try simp only [Act.put, List.setIfInBounds_toArray, List.set_cons_zero, List.set_cons_succ]
        refine takeL (i := 3) (v := _) rfl (by kernel_rfl) (by kernel_rfl) (by kernel_rfl) (fun _ _ _ h => h) (Or.inl ⟨by rfl, by intro w hSw; (try dsimp only at hSw); go_simp; try with_reducible rfl⟩) (by assumption) ?_
        try simp only [Act.put, List.setIfInBounds_toArray, List.set_cons_zero, List.set_cons_succ]
        refine takeL (i := 5) (v := _) rfl (by kernel_rfl) (by kernel_rfl) (by kernel_rfl) (fun _ _ _ h => h) (yieldsIf_load_mid (by rfl) 57 _ rfl g7 0 rfl ([.int .i64 FC, .bool FP, .int .i64 FQ]) _ (fun w hSw => hSw.2) hUF rfl hIF) (by assumption) ?_
        try simp only [Act.put, List.setIfInBounds_toArray, List.set_cons_zero, List.set_cons_succ]
        refine onlyL (i := 4) rfl (by kernel_rfl) (fun K hK => ?_)
        go_simp
        refine (refBytes_walk (cap := 0) (l := l.drop 40) (a := a) (len := 0) H8.out.2.2.2.2.2 (by omega)).mono ?_
        rintro e wy ⟨ay, cy, rfl, hoy, hky, hfy⟩
        have hwf := H8.out.2.2.2.2.2.wf
        have H10 := Lib.hid (And.intro (H8.out.1.keep0 hky) (And.intro (H8.out.2.1.keep0 hky) (And.intro (H8.out.2.2.1.keep0 hky) (And.intro (H8.out.2.2.2.1.keep0 hky) (H8.out.2.2.2.2.1.trans hky)))))
        have hfy2 : ∀ k, blkOf ay k → k ≠ g2 ∧ k ≠ g4 := fun k hk => by have h1 := hfy k hk; have := H8.out.2.2.1.lt; have := H8.out.2.2.2.1.lt; omega
        refine (fun hHeld => hK _ _ hHeld ?_) (⟨H10.out.1.range0, H10.out.2.1.range0⟩)
        clear hK
        try simp only [Act.put, List.setIfInBounds_toArray, List.set_cons_zero, List.set_cons_succ]
        refine onlyL (i := 6) rfl (by kernel_rfl) (fun K hK => ?_)
        refine step_store rfl 76 _ _ rfl g2 rfl H rfl H10.out.2.2.1 hLH hIH hOH ?_
        intro w10 hb10 hk10 hs10
        have hd3 := H10.out.2.2.2.1.keep hk10 (fun e => HNE.out.1 (show g4 = g2 from e).symm)
        have h6 := H10.out.1.keep hk10 (fun e => HN6.out.1 (show g6 = g2 from e))
        have h7 := H10.out.2.1.keep hk10 (fun e => HN6.out.2.2.1 (show g7 = g2 from e))
        have hk10w := H10.out.2.2.2.2.step hk10 (fun i hi => .inr (by rw [show i = g2 from hi]; exact HNE.out.2.1))
        refine (fun hHeld => hK _ _ hHeld ?_) (⟨h6.range0, h7.range0⟩)
        clear hK
        try simp only [Act.put, List.setIfInBounds_toArray, List.set_cons_zero, List.set_cons_succ]
        refine takeL (i := 7) (v := _) rfl (by kernel_rfl) (by kernel_rfl) (by kernel_rfl) (fun _ _ _ h => h) (Or.inl ⟨by rfl, by intro w hSw; (try dsimp only at hSw); go_simp; try with_reducible rfl⟩) (by assumption) ?_
        try simp only [Act.put, List.setIfInBounds_toArray, List.set_cons_zero, List.set_cons_succ]
        refine onlyL (i := 8) rfl (by kernel_rfl) (fun K hK => ?_)
        refine step_store rfl 57 _ _ rfl g4 rfl [.int .i64 FC, .bool FP, .int .i64 FQ] rfl hd3 rfl hIF (by intro v hv; simp at hv; rcases hv with rfl | rfl | rfl <;> rfl) ?_
        intro w11 hb11 hk11 hs11
        have hc10 := hb10.keep hk11 (fun e => HNE.out.1 (show g2 = g4 from e))
        have hkF := hk10w.step hk11 (fun i hi => .inr (by rw [show i = g4 from hi]; exact HNE.out.2.2))
        refine (fun hHeld => hK _ _ hHeld ?_) (⟨(h6.keep hk11 (fun e => HN6.out.2.1 (show g6 = g4 from e))).range0, (h7.keep hk11 (fun e => HN6.out.2.2.2 (show g7 = g4 from e))).range0⟩)
        clear hK
        try simp only [Act.put, List.setIfInBounds_toArray, List.set_cons_zero, List.set_cons_succ]
        refine wpAnyH_done (by kernel_rfl) ?_ _
        clear hHeld hs10 hs11 hd3 h6 h7 hk10w
        go_wp2_with fail
        have hoF := (hoy.keep hk10 (fun k hk e => (hfy2 k hk).1 e)).keep hk11 (fun k hk e => (hfy2 k hk).2 e)
        refine ret_blktb Tryd.results63 g2 g4 rfl rfl hc10 hb11 _ _ hUH hUF rfl rfl hIH hIF rfl rfl (HFIN.out _ ay cy _ (by have := HDL.out; omega) (hoF.row hwf) hkF)
      · have hc40n : ¬ (capb = 40) := hc40
        obtain ⟨b, off, ha, _⟩ := hrow.cell (by omega)
        subst ha
        go_enter Tryd.func63, Tryd.ntmps63
        go_upto_region 1 with fail
        rw [HG4.out, HG2.out, HWA.out, HWB.out]
        go_wp2_with fail
        refine HRH.out.mono ?_
        intro e w1 hpost
        obtain ⟨rfl, hk1⟩ := HR.out e w1 hpost
        clear hpost
        have HK1 := Lib.hid hk1
        clear hk1
        go_wp2_with (refine wpl_store rfl 76 _ _ rfl w1.heap.size rfl H rfl ((Blk.new w1 zh _).alloc _) HHL.out HHI.out HH1.out ?_)
        intro w2 hb2 hk2 hs2
        clear hs2
        have hf2 : Blk w2 (w1.heap.size + 1) [.int .i64 0, .bool false, .int .i64 0] 57 := (Blk.new' (w1.alloc (.cells zh.toArray 76)) _ _ (by simp)).keep hk2 (fun e => by have : w1.heap.size + 1 = w1.heap.size := e; omega)
        have hk12 : Keeps Nil w1 w2 := (((Keeps.refl Nil w1).alloc _).alloc _).step hk2 (fun i hi => .inr (by rw [show i = w1.heap.size from hi]; exact Nat.le_refl _))
        have HB2 := Lib.hid (And.intro hb2 (And.intro hf2 hk12))
        clear hb2 hk2 hf2 hk12
        go_wp2_with (refine wpl_store rfl 57 _ _ rfl (w1.heap.size + 1) rfl [.int .i64 FC, .bool FP, .int .i64 FQ] rfl HB2.out.2.1 rfl Tryd.sizeFault (by intro v hv; simp at hv; rcases hv with rfl | rfl | rfl <;> rfl) ?_)
        intro w3 hb3 hk3 hs3
        clear hs3
        have hb6 := HB2.out.1.keep hk3 (fun e => by have : w1.heap.size = w1.heap.size + 1 := e; omega)
        have hk13 := HB2.out.2.2.step hk3 (fun i hi => .inr (by rw [show i = w1.heap.size + 1 from hi]; omega))
        have hkB3 := HK1.out.trans hk13
        obtain ⟨g6, hg6⟩ : ∃ g6, w1.heap.size = g6 := ⟨_, rfl⟩
        rw [hg6] at hb6 hb3 ⊢
        obtain ⟨g7, hg7⟩ : ∃ g7, g6 + 1 = g7 := ⟨_, rfl⟩
        rw [hg7] at hb3 ⊢
        have hsB : wB.heap.size ≤ g6 := by rw [← hg6]; exact HK1.out.size
        have H3 := Lib.hid (And.intro hb6 (And.intro hb3 (And.intro (HB.out.1.keep0 hkB3) (And.intro (HB.out.2.1.keep0 hkB3) (And.intro (HB.out.2.2.1.trans hkB3) (HB.out.2.2.2.keep hkB3))))))
        have HN6 := Lib.hid (show g6 ≠ g2 ∧ g6 ≠ g4 ∧ g7 ≠ g2 ∧ g7 ≠ g4 by have := HB.out.1.lt; have := HB.out.2.1.lt; omega)
        clear hb6 hk3 hk13 hkB3 hb3 hg6 hg7 hsB HB2
        have hFc0 := H3.out.2.1.cell 0 rfl
        have hFc1 := H3.out.2.1.cell 1 rfl
        have hFc2 := H3.out.2.1.cell 2 rfl
        go_wp2_with fail
        have HTR := Lib.hid (fun w' (_ : Keeps Nil w3 w') => HRE.out w' (some ⟨b, off + 40, none⟩))
        refine (bad_walk FC FP FQ w3).mono ?_
        rw [hfcb]
        rintro e w9 ⟨rfl, hk9⟩
        have H9 := Lib.hid (And.intro (H3.out.1.keep0 hk9) (And.intro (H3.out.2.1.keep0 hk9) (And.intro (H3.out.2.2.1.keep0 hk9) (And.intro (H3.out.2.2.2.1.keep0 hk9) (And.intro (H3.out.2.2.2.2.1.trans hk9) (HTR.out w9 hk9))))))
        have hIF := Tryd.sizeFault
        obtain ⟨fsF, hUF⟩ := Tryd.undFault
        have hUH := Tryd.underlying76
        have hIH := HHI.out
        have hLH := HHL.out
        have hOH := HH1.out
        clear hk9 H3 hFc0 hFc1 hFc2 HTR
        go_upto_region 5 with fail
        refine wp_region_held_drew (S := fun w' => w'.rangeAt g6 0 H ∧ w'.rangeAt g7 0 [.int .i64 FC, .bool FP, .int .i64 FQ]) (by kernel_rfl) ⟨H9.out.1.range0, H9.out.2.1.range0⟩ (fun hHeld => ?_)
        have hkd : Keeps Nil w9 w9.drew := (Keeps.refl Nil w9).drew
        have H8 := Lib.hid (And.intro (H9.out.1.keep0 hkd) (And.intro (H9.out.2.1.keep0 hkd) (And.intro (H9.out.2.2.1.keep0 hkd) (And.intro (H9.out.2.2.2.1.keep0 hkd) (And.intro (H9.out.2.2.2.2.1.trans hkd) (H9.out.2.2.2.2.2.keep hkd))))))
        clear hkd H9
        generalize w9.drew = v0 at *
        refine takeL (i := 0) (v := _) rfl (by kernel_rfl) (by kernel_rfl) (by kernel_rfl) (fun _ _ _ h => h) (yieldsIf_load_mid (by rfl) 76 _ rfl g6 0 rfl (H) _ (fun w hSw => hSw.1) hUH rfl hIH) (by assumption) ?_
        try simp only [Act.put, List.setIfInBounds_toArray, List.set_cons_zero, List.set_cons_succ]
        refine takeL (i := 1) (v := _) rfl (by kernel_rfl) (by kernel_rfl) (by kernel_rfl) (fun _ _ _ h => h) (Or.inl ⟨by rfl, by intro w hSw; (try dsimp only at hSw); go_simp; try with_reducible rfl⟩) (by assumption) ?_
        try simp only [Act.put, List.setIfInBounds_toArray, List.set_cons_zero, List.set_cons_succ]
        refine takeL (i := 2) (v := _) rfl (by kernel_rfl) (by kernel_rfl) (by kernel_rfl) (fun _ _ _ h => h) (Or.inl ⟨by rfl, by intro w hSw; (try dsimp only at hSw); go_simp; try with_reducible rfl⟩) (by assumption) ?_
        try simp only [Act.put, List.setIfInBounds_toArray, List.set_cons_zero, List.set_cons_succ]
        refine takeL (i := 3) (v := _) rfl (by kernel_rfl) (by kernel_rfl) (by kernel_rfl) (fun _ _ _ h => h) (Or.inl ⟨by rfl, by intro w hSw; (try dsimp only at hSw); go_simp; try with_reducible rfl⟩) (by assumption) ?_
        try simp only [Act.put, List.setIfInBounds_toArray, List.set_cons_zero, List.set_cons_succ]
        refine takeL (i := 5) (v := _) rfl (by kernel_rfl) (by kernel_rfl) (by kernel_rfl) (fun _ _ _ h => h) (yieldsIf_load_mid (by rfl) 57 _ rfl g7 0 rfl ([.int .i64 FC, .bool FP, .int .i64 FQ]) _ (fun w hSw => hSw.2) hUF rfl hIF) (by assumption) ?_
        try simp only [Act.put, List.setIfInBounds_toArray, List.set_cons_zero, List.set_cons_succ]
        refine onlyL (i := 4) rfl (by kernel_rfl) (fun K hK => ?_)
        go_simp
        refine (refBytes_walk (cap := (capb - 40)) (l := l.drop 40) (a := (some ⟨b, off + 40, none⟩)) (len := 0) H8.out.2.2.2.2.2 (by omega)).mono ?_
        rintro e wy ⟨ay, cy, rfl, hoy, hky, hfy⟩
        have hwf := H8.out.2.2.2.2.2.wf
        have H10 := Lib.hid (And.intro (H8.out.1.keep0 hky) (And.intro (H8.out.2.1.keep0 hky) (And.intro (H8.out.2.2.1.keep0 hky) (And.intro (H8.out.2.2.2.1.keep0 hky) (H8.out.2.2.2.2.1.trans hky)))))
        have hfy2 : ∀ k, blkOf ay k → k ≠ g2 ∧ k ≠ g4 := fun k hk => by have h1 := hfy k hk; have := H8.out.2.2.1.lt; have := H8.out.2.2.2.1.lt; omega
        refine (fun hHeld => hK _ _ hHeld ?_) (⟨H10.out.1.range0, H10.out.2.1.range0⟩)
        clear hK
        try simp only [Act.put, List.setIfInBounds_toArray, List.set_cons_zero, List.set_cons_succ]
        refine onlyL (i := 6) rfl (by kernel_rfl) (fun K hK => ?_)
        refine step_store rfl 76 _ _ rfl g2 rfl H rfl H10.out.2.2.1 hLH hIH hOH ?_
        intro w10 hb10 hk10 hs10
        have hd3 := H10.out.2.2.2.1.keep hk10 (fun e => HNE.out.1 (show g4 = g2 from e).symm)
        have h6 := H10.out.1.keep hk10 (fun e => HN6.out.1 (show g6 = g2 from e))
        have h7 := H10.out.2.1.keep hk10 (fun e => HN6.out.2.2.1 (show g7 = g2 from e))
        have hk10w := H10.out.2.2.2.2.step hk10 (fun i hi => .inr (by rw [show i = g2 from hi]; exact HNE.out.2.1))
        refine (fun hHeld => hK _ _ hHeld ?_) (⟨h6.range0, h7.range0⟩)
        clear hK
        try simp only [Act.put, List.setIfInBounds_toArray, List.set_cons_zero, List.set_cons_succ]
        refine takeL (i := 7) (v := _) rfl (by kernel_rfl) (by kernel_rfl) (by kernel_rfl) (fun _ _ _ h => h) (Or.inl ⟨by rfl, by intro w hSw; (try dsimp only at hSw); go_simp; try with_reducible rfl⟩) (by assumption) ?_
        try simp only [Act.put, List.setIfInBounds_toArray, List.set_cons_zero, List.set_cons_succ]
        refine onlyL (i := 8) rfl (by kernel_rfl) (fun K hK => ?_)
        refine step_store rfl 57 _ _ rfl g4 rfl [.int .i64 FC, .bool FP, .int .i64 FQ] rfl hd3 rfl hIF (by intro v hv; simp at hv; rcases hv with rfl | rfl | rfl <;> rfl) ?_
        intro w11 hb11 hk11 hs11
        have hc10 := hb10.keep hk11 (fun e => HNE.out.1 (show g2 = g4 from e))
        have hkF := hk10w.step hk11 (fun i hi => .inr (by rw [show i = g4 from hi]; exact HNE.out.2.2))
        refine (fun hHeld => hK _ _ hHeld ?_) (⟨(h6.keep hk11 (fun e => HN6.out.2.1 (show g6 = g4 from e))).range0, (h7.keep hk11 (fun e => HN6.out.2.2.2 (show g7 = g4 from e))).range0⟩)
        clear hK
        try simp only [Act.put, List.setIfInBounds_toArray, List.set_cons_zero, List.set_cons_succ]
        refine wpAnyH_done (by kernel_rfl) ?_ _
        clear hHeld hs10 hs11 hd3 h6 h7 hk10w
        go_wp2_with fail
        have hoF := (hoy.keep hk10 (fun k hk e => (hfy2 k hk).1 e)).keep hk11 (fun k hk e => (hfy2 k hk).2 e)
        refine ret_blktb Tryd.results63 g2 g4 rfl rfl hc10 hb11 _ _ hUH hUF rfl rfl hIH hIF rfl rfl (HFIN.out _ ay cy _ (by have := HDL.out; omega) (hoF.row hwf) hkF)
    · have hgt : (40 : Int) < len := by omega
      have hgt2 : (40 : Int) ≤ len := by omega
      have hc40n : ¬ (capb = 40) := by omega
      obtain ⟨b, off, ha, _⟩ := hrow.cell (by omega)
      subst ha
      go_enter Tryd.func63, Tryd.ntmps63
      go_upto_region 1 with fail
      rw [HG4.out, HG2.out, HWA.out, HWB.out]
      go_wp2_with fail
      refine HRH.out.mono ?_
      intro e w1 hpost
      obtain ⟨rfl, hk1⟩ := HR.out e w1 hpost
      clear hpost
      have HK1 := Lib.hid hk1
      clear hk1
      go_wp2_with (refine wpl_store rfl 76 _ _ rfl w1.heap.size rfl H rfl ((Blk.new w1 zh _).alloc _) HHL.out HHI.out HH1.out ?_)
      intro w2 hb2 hk2 hs2
      clear hs2
      have hf2 : Blk w2 (w1.heap.size + 1) [.int .i64 0, .bool false, .int .i64 0] 57 := (Blk.new' (w1.alloc (.cells zh.toArray 76)) _ _ (by simp)).keep hk2 (fun e => by have : w1.heap.size + 1 = w1.heap.size := e; omega)
      have hk12 : Keeps Nil w1 w2 := (((Keeps.refl Nil w1).alloc _).alloc _).step hk2 (fun i hi => .inr (by rw [show i = w1.heap.size from hi]; exact Nat.le_refl _))
      have HB2 := Lib.hid (And.intro hb2 (And.intro hf2 hk12))
      clear hb2 hk2 hf2 hk12
      go_wp2_with (refine wpl_store rfl 57 _ _ rfl (w1.heap.size + 1) rfl [.int .i64 FC, .bool FP, .int .i64 FQ] rfl HB2.out.2.1 rfl Tryd.sizeFault (by intro v hv; simp at hv; rcases hv with rfl | rfl | rfl <;> rfl) ?_)
      intro w3 hb3 hk3 hs3
      clear hs3
      have hb6 := HB2.out.1.keep hk3 (fun e => by have : w1.heap.size = w1.heap.size + 1 := e; omega)
      have hk13 := HB2.out.2.2.step hk3 (fun i hi => .inr (by rw [show i = w1.heap.size + 1 from hi]; omega))
      have hkB3 := HK1.out.trans hk13
      obtain ⟨g6, hg6⟩ : ∃ g6, w1.heap.size = g6 := ⟨_, rfl⟩
      rw [hg6] at hb6 hb3 ⊢
      obtain ⟨g7, hg7⟩ : ∃ g7, g6 + 1 = g7 := ⟨_, rfl⟩
      rw [hg7] at hb3 ⊢
      have hsB : wB.heap.size ≤ g6 := by rw [← hg6]; exact HK1.out.size
      have H3 := Lib.hid (And.intro hb6 (And.intro hb3 (And.intro (HB.out.1.keep0 hkB3) (And.intro (HB.out.2.1.keep0 hkB3) (And.intro (HB.out.2.2.1.trans hkB3) (HB.out.2.2.2.keep hkB3))))))
      have HN6 := Lib.hid (show g6 ≠ g2 ∧ g6 ≠ g4 ∧ g7 ≠ g2 ∧ g7 ≠ g4 by have := HB.out.1.lt; have := HB.out.2.1.lt; omega)
      clear hb6 hk3 hk13 hkB3 hb3 hg6 hg7 hsB HB2
      have hFc0 := H3.out.2.1.cell 0 rfl
      have hFc1 := H3.out.2.1.cell 1 rfl
      have hFc2 := H3.out.2.1.cell 2 rfl
      go_wp2_with fail
      have HTR := Lib.hid (fun w' (hk : Keeps Nil w3 w') => by
        have h1 := (H3.out.2.2.2.2.2.keep hk).tailH 40 (by omega)
        rw [Addr.add_lit] at h1
        exact h1)
      refine (bad_walk FC FP FQ w3).mono ?_
      rw [hfcb]
      rintro e w9 ⟨rfl, hk9⟩
      have H9 := Lib.hid (And.intro (H3.out.1.keep0 hk9) (And.intro (H3.out.2.1.keep0 hk9) (And.intro (H3.out.2.2.1.keep0 hk9) (And.intro (H3.out.2.2.2.1.keep0 hk9) (And.intro (H3.out.2.2.2.2.1.trans hk9) (HTR.out w9 hk9))))))
      have hIF := Tryd.sizeFault
      obtain ⟨fsF, hUF⟩ := Tryd.undFault
      have hUH := Tryd.underlying76
      have hIH := HHI.out
      have hLH := HHL.out
      have hOH := HH1.out
      clear hk9 H3 hFc0 hFc1 hFc2 HTR
      go_upto_region 5 with fail
      refine wp_region_held_drew (S := fun w' => w'.rangeAt g6 0 H ∧ w'.rangeAt g7 0 [.int .i64 FC, .bool FP, .int .i64 FQ]) (by kernel_rfl) ⟨H9.out.1.range0, H9.out.2.1.range0⟩ (fun hHeld => ?_)
      have hkd : Keeps Nil w9 w9.drew := (Keeps.refl Nil w9).drew
      have H8 := Lib.hid (And.intro (H9.out.1.keep0 hkd) (And.intro (H9.out.2.1.keep0 hkd) (And.intro (H9.out.2.2.1.keep0 hkd) (And.intro (H9.out.2.2.2.1.keep0 hkd) (And.intro (H9.out.2.2.2.2.1.trans hkd) (H9.out.2.2.2.2.2.keep hkd))))))
      clear hkd H9
      generalize w9.drew = v0 at *
      refine takeL (i := 0) (v := _) rfl (by kernel_rfl) (by kernel_rfl) (by kernel_rfl) (fun _ _ _ h => h) (yieldsIf_load_mid (by rfl) 76 _ rfl g6 0 rfl (H) _ (fun w hSw => hSw.1) hUH rfl hIH) (by assumption) ?_
      try simp only [Act.put, List.setIfInBounds_toArray, List.set_cons_zero, List.set_cons_succ]
      refine takeL (i := 1) (v := _) rfl (by kernel_rfl) (by kernel_rfl) (by kernel_rfl) (fun _ _ _ h => h) (Or.inl ⟨by rfl, by intro w hSw; (try dsimp only at hSw); go_simp; try with_reducible rfl⟩) (by assumption) ?_
      try simp only [Act.put, List.setIfInBounds_toArray, List.set_cons_zero, List.set_cons_succ]
      refine takeL (i := 2) (v := _) rfl (by kernel_rfl) (by kernel_rfl) (by kernel_rfl) (fun _ _ _ h => h) (Or.inl ⟨by rfl, by intro w hSw; (try dsimp only at hSw); go_simp; try with_reducible rfl⟩) (by assumption) ?_
      try simp only [Act.put, List.setIfInBounds_toArray, List.set_cons_zero, List.set_cons_succ]
      refine takeL (i := 3) (v := _) rfl (by kernel_rfl) (by kernel_rfl) (by kernel_rfl) (fun _ _ _ h => h) (Or.inl ⟨by rfl, by intro w hSw; (try dsimp only at hSw); go_simp; try with_reducible rfl⟩) (by assumption) ?_
      try simp only [Act.put, List.setIfInBounds_toArray, List.set_cons_zero, List.set_cons_succ]
      refine takeL (i := 5) (v := _) rfl (by kernel_rfl) (by kernel_rfl) (by kernel_rfl) (fun _ _ _ h => h) (yieldsIf_load_mid (by rfl) 57 _ rfl g7 0 rfl ([.int .i64 FC, .bool FP, .int .i64 FQ]) _ (fun w hSw => hSw.2) hUF rfl hIF) (by assumption) ?_
      try simp only [Act.put, List.setIfInBounds_toArray, List.set_cons_zero, List.set_cons_succ]
      refine onlyL (i := 4) rfl (by kernel_rfl) (fun K hK => ?_)
      go_simp
      refine (refBytes_walk (cap := (capb - 40)) (l := l.drop 40) (a := (some ⟨b, off + 40, none⟩)) (len := (len - 40)) H8.out.2.2.2.2.2 (by omega)).mono ?_
      rintro e wy ⟨ay, cy, rfl, hoy, hky, hfy⟩
      have hwf := H8.out.2.2.2.2.2.wf
      have H10 := Lib.hid (And.intro (H8.out.1.keep0 hky) (And.intro (H8.out.2.1.keep0 hky) (And.intro (H8.out.2.2.1.keep0 hky) (And.intro (H8.out.2.2.2.1.keep0 hky) (H8.out.2.2.2.2.1.trans hky)))))
      have hfy2 : ∀ k, blkOf ay k → k ≠ g2 ∧ k ≠ g4 := fun k hk => by have h1 := hfy k hk; have := H8.out.2.2.1.lt; have := H8.out.2.2.2.1.lt; omega
      refine (fun hHeld => hK _ _ hHeld ?_) (⟨H10.out.1.range0, H10.out.2.1.range0⟩)
      clear hK
      try simp only [Act.put, List.setIfInBounds_toArray, List.set_cons_zero, List.set_cons_succ]
      refine onlyL (i := 6) rfl (by kernel_rfl) (fun K hK => ?_)
      refine step_store rfl 76 _ _ rfl g2 rfl H rfl H10.out.2.2.1 hLH hIH hOH ?_
      intro w10 hb10 hk10 hs10
      have hd3 := H10.out.2.2.2.1.keep hk10 (fun e => HNE.out.1 (show g4 = g2 from e).symm)
      have h6 := H10.out.1.keep hk10 (fun e => HN6.out.1 (show g6 = g2 from e))
      have h7 := H10.out.2.1.keep hk10 (fun e => HN6.out.2.2.1 (show g7 = g2 from e))
      have hk10w := H10.out.2.2.2.2.step hk10 (fun i hi => .inr (by rw [show i = g2 from hi]; exact HNE.out.2.1))
      refine (fun hHeld => hK _ _ hHeld ?_) (⟨h6.range0, h7.range0⟩)
      clear hK
      try simp only [Act.put, List.setIfInBounds_toArray, List.set_cons_zero, List.set_cons_succ]
      refine takeL (i := 7) (v := _) rfl (by kernel_rfl) (by kernel_rfl) (by kernel_rfl) (fun _ _ _ h => h) (Or.inl ⟨by rfl, by intro w hSw; (try dsimp only at hSw); go_simp; try with_reducible rfl⟩) (by assumption) ?_
      try simp only [Act.put, List.setIfInBounds_toArray, List.set_cons_zero, List.set_cons_succ]
      refine onlyL (i := 8) rfl (by kernel_rfl) (fun K hK => ?_)
      refine step_store rfl 57 _ _ rfl g4 rfl [.int .i64 FC, .bool FP, .int .i64 FQ] rfl hd3 rfl hIF (by intro v hv; simp at hv; rcases hv with rfl | rfl | rfl <;> rfl) ?_
      intro w11 hb11 hk11 hs11
      have hc10 := hb10.keep hk11 (fun e => HNE.out.1 (show g2 = g4 from e))
      have hkF := hk10w.step hk11 (fun i hi => .inr (by rw [show i = g4 from hi]; exact HNE.out.2.2))
      refine (fun hHeld => hK _ _ hHeld ?_) (⟨(h6.keep hk11 (fun e => HN6.out.2.1 (show g6 = g4 from e))).range0, (h7.keep hk11 (fun e => HN6.out.2.2.2 (show g7 = g4 from e))).range0⟩)
      clear hK
      try simp only [Act.put, List.setIfInBounds_toArray, List.set_cons_zero, List.set_cons_succ]
      refine wpAnyH_done (by kernel_rfl) ?_ _
      clear hHeld hs10 hs11 hd3 h6 h7 hk10w
      go_wp2_with fail
      have hoF := (hoy.keep hk10 (fun k hk e => (hfy2 k hk).1 e)).keep hk11 (fun k hk e => (hfy2 k hk).2 e)
      refine ret_blktb Tryd.results63 g2 g4 rfl rfl hc10 hb11 _ _ hUH hUF rfl rfl hIH hIF rfl rfl (HFIN.out _ ay cy _ (by have := HDL.out; omega) (hoF.row hwf) hkF)
end Go.Proofs.YtdkfhfflhglmaaaDoor
