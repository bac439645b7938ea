/-
  The document's Reader behind an error; its Key.
-/
import Derived.Test.YtdkfhfflhglmaaaDoorHeadCut2
import Derived.Test.YtdkfhfflhglmaaaDoorCodeRefs
import Derived.Deep.DeepCutAuto
import Derived.Deep.CutRange
import Derived.Deep.CutBlock
namespace Go.Proofs.YtdkfhfflhglmaaaDoor
set_option linter.unusedSimpArgs false
set_option linter.unusedVariables false
open Go.RowKit

theorem alloc1H (w : World) (c1 : List Value) (T1 : TypeId) : ∃ wA g, g = w.heap.size ∧ Blk wA g c1 T1 ∧ wA = w.alloc (.cells c1.toArray T1) ∧ Keeps Nil w wA :=
  ⟨_, _, rfl, Blk.new _ _ _, rfl, (Keeps.refl _ _).alloc _⟩
set_option maxHeartbeats 1600000 in
/-- Behind an error nothing is read. -/
theorem rfRaw_bad {w : World} {g cap at_ : Nat} {a : Option Addr} {l : List Int} {c q : Int} {p : Bool} (h : IsRf w g a cap l at_ c p q) (hc : c ≠ 0) (n : Nat) :
    Calls Tryd.prog 53 #[.pointer (some ⟨g, 0, none⟩), .int .i64 n] w (RfOk (.slice none 0 0) g a cap l at_ c p q w) := by
  have H0 := Lib.hid h
  have hcz : (c == 0) = false := by simpa using hc
  have hn0 : ¬ (n : Int) < 0 := by omega
  have hn1 : decide ((n : Int) < 0) = false := by simp
  have c0 := h.obj.cell 0 rfl
  have c1 := h.obj.cell 1 rfl
  clear h
  go_enter Tryd.func53, Tryd.ntmps53
  go_wp2_with fail
  clear c0 c1
  refine wp_region_held_drew (S := fun _ => True) (by kernel_rfl) trivial (fun hHeld => ?_)
  have H1 := Lib.hid (And.intro (H0.out.keep0 (Keeps.refl Nil w).drew) (Keeps.refl Nil w).drew)
  generalize w.drew = v0 at *
  refine takeL (i := 0) (v := _) rfl (by kernel_rfl) (by kernel_rfl) (by kernel_rfl) (fun _ _ _ h => h) (Or.inl ⟨by rfl, by intro w hSw; (try dsimp only at hSw); go_simp; try with_reducible rfl⟩) (by assumption) ?_
  try simp only [Act.put, List.setIfInBounds_toArray, List.set_cons_zero, List.set_cons_succ]
  refine onlyL (i := 1) rfl (by kernel_rfl) (fun K hK => ?_)
  go_simp
  refine (fine_walk H1.out.1).mono ?_
  rw [hcz]
  rintro e w2 ⟨rfl, hk2⟩
  have H2 := Lib.hid (And.intro (H1.out.1.keep0 hk2) (H1.out.2.trans hk2))
  refine (fun hHeld => hK _ _ hHeld ?_) (trivial)
  clear hK
  try simp only [Act.put, List.setIfInBounds_toArray, List.set_cons_zero, List.set_cons_succ]
  refine takeL (i := 2) (v := _) rfl (by kernel_rfl) (by kernel_rfl) (by kernel_rfl) (fun _ _ _ h => h) (Or.inl ⟨by rfl, by intro w hSw; (try dsimp only at hSw); go_simp; try with_reducible rfl⟩) (by assumption) ?_
  try simp only [Act.put, List.setIfInBounds_toArray, List.set_cons_zero, List.set_cons_succ]
  refine takeL (i := 3) (v := undef) rfl (by kernel_rfl) (by kernel_rfl) (by kernel_rfl) (fun _ _ _ h => h) (Or.inr ⟨by rfl, rfl⟩) (by assumption) ?_
  try simp only [Act.put, List.setIfInBounds_toArray, List.set_cons_zero, List.set_cons_succ]
  refine takeL (i := 4) (v := undef) rfl (by kernel_rfl) (by kernel_rfl) (by kernel_rfl) (fun _ _ _ h => h) (Or.inr ⟨by rfl, rfl⟩) (by assumption) ?_
  try simp only [Act.put, List.setIfInBounds_toArray, List.set_cons_zero, List.set_cons_succ]
  refine takeL (i := 5) (v := undef) rfl (by kernel_rfl) (by kernel_rfl) (by kernel_rfl) (fun _ _ _ h => h) (Or.inr ⟨by rfl, rfl⟩) (by assumption) ?_
  try simp only [Act.put, List.setIfInBounds_toArray, List.set_cons_zero, List.set_cons_succ]
  refine takeL (i := 6) (v := undef) rfl (by kernel_rfl) (by kernel_rfl) (by kernel_rfl) (fun _ _ _ h => h) (Or.inr ⟨by rfl, rfl⟩) (by assumption) ?_
  try simp only [Act.put, List.setIfInBounds_toArray, List.set_cons_zero, List.set_cons_succ]
  refine takeL (i := 7) (v := undef) rfl (by kernel_rfl) (by kernel_rfl) (by kernel_rfl) (fun _ _ _ h => h) (Or.inr ⟨by rfl, rfl⟩) (by assumption) ?_
  try simp only [Act.put, List.setIfInBounds_toArray, List.set_cons_zero, List.set_cons_succ]
  refine takeL (i := 8) (v := undef) rfl (by kernel_rfl) (by kernel_rfl) (by kernel_rfl) (fun _ _ _ h => h) (Or.inr ⟨by rfl, rfl⟩) (by assumption) ?_
  try simp only [Act.put, List.setIfInBounds_toArray, List.set_cons_zero, List.set_cons_succ]
  refine takeL (i := 9) (v := undef) rfl (by kernel_rfl) (by kernel_rfl) (by kernel_rfl) (fun _ _ _ h => h) (Or.inr ⟨by rfl, rfl⟩) (by assumption) ?_
  try simp only [Act.put, List.setIfInBounds_toArray, List.set_cons_zero, List.set_cons_succ]
  refine takeL (i := 10) (v := undef) rfl (by kernel_rfl) (by kernel_rfl) (by kernel_rfl) (fun _ _ _ h => h) (Or.inr ⟨by rfl, rfl⟩) (by assumption) ?_
  try simp only [Act.put, List.setIfInBounds_toArray, List.set_cons_zero, List.set_cons_succ]
  refine takeL (i := 11) (v := undef) rfl (by kernel_rfl) (by kernel_rfl) (by kernel_rfl) (fun _ _ _ h => h) (Or.inr ⟨by rfl, rfl⟩) (by assumption) ?_
  try simp only [Act.put, List.setIfInBounds_toArray, List.set_cons_zero, List.set_cons_succ]
  refine takeL (i := 12) (v := undef) rfl (by kernel_rfl) (by kernel_rfl) (by kernel_rfl) (fun _ _ _ h => h) (Or.inr ⟨by rfl, rfl⟩) (by assumption) ?_
  try simp only [Act.put, List.setIfInBounds_toArray, List.set_cons_zero, List.set_cons_succ]
  refine takeL (i := 13) (v := undef) rfl (by kernel_rfl) (by kernel_rfl) (by kernel_rfl) (fun _ _ _ h => h) (Or.inr ⟨by rfl, rfl⟩) (by assumption) ?_
  try simp only [Act.put, List.setIfInBounds_toArray, List.set_cons_zero, List.set_cons_succ]
  refine takeL (i := 14) (v := undef) rfl (by kernel_rfl) (by kernel_rfl) (by kernel_rfl) (fun _ _ _ h => h) (Or.inr ⟨by rfl, rfl⟩) (by assumption) ?_
  try simp only [Act.put, List.setIfInBounds_toArray, List.set_cons_zero, List.set_cons_succ]
  refine takeL (i := 15) (v := _) rfl (by kernel_rfl) (by kernel_rfl) (by kernel_rfl) (fun _ _ _ h => h) (Or.inl ⟨by rfl, by intro w hSw; (try dsimp only at hSw); go_simp; try with_reducible rfl⟩) (by assumption) ?_
  try simp only [Act.put, List.setIfInBounds_toArray, List.set_cons_zero, List.set_cons_succ]
  refine wpAnyH_done (by kernel_rfl) ?_ _
  clear hHeld hk2
  go_wp2_with fail
  refine (fine_walk H2.out.1).mono ?_
  rw [hcz]
  rintro e w3 ⟨rfl, hk3⟩
  go_wp2_with fail
  go_ret
  exact ⟨rfl, H2.out.1.keep0 hk3, (H2.out.2.trans hk3).nil⟩
set_option maxHeartbeats 800000 in
theorem rfU32_bad {w : World} {g cap at_ : Nat} {a : Option Addr} {l : List Int} {c q : Int} {p : Bool} (h : IsRf w g a cap l at_ c p q) (hc : c ≠ 0) :
    Calls Tryd.prog 52 #[.pointer (some ⟨g, 0, none⟩)] w (RfOk (.int .u32 0) g a cap l at_ c p q w) := by
  have HT := Lib.hid (rfRaw_bad h hc 4)
  clear h hc
  go_enter Tryd.func52, Tryd.ntmps52
  go_wp2_with fail
  refine HT.out.mono ?_
  rintro e w2 ⟨rfl, h2, hk2⟩
  go_wp2_with fail
  go_ret
  exact ⟨rfl, h2, hk2⟩
theorem IsRf.oldRow {w : World} {g cap at_ : Nat} {a : Option Addr} {l : List Int} {c q : Int} {p : Bool} (h : IsRf w g a cap l at_ c p q) : 0 < l.length → ∀ b, blkOf a b → b < w.heap.size := fun h0 b hb => by
  obtain ⟨b', o', ha, hlt, _⟩ := h.row.cell h0
  subst ha
  rw [(blkOf_some _ _ _ _).1 hb]
  exact hlt
/-- A key, while its bytes come in. -/
def keyTo (b : List Int) (j : Nat) : List Int := b.take j ++ List.replicate (32 - j) 0
theorem keyTo_zero (b : List Int) : keyTo b 0 = zk := by simp [keyTo, zk]
theorem keyTo_all {b : List Int} (h : b.length = 32) : keyTo b 32 = b := by simp [keyTo, ← h]
theorem keyTo_len {b : List Int} {j : Nat} (hb : b.length = 32) (h : j ≤ 32) : (keyTo b j).length = 32 := by simp [keyTo, hb]; omega
theorem keyTo_succ {b : List Int} {j : Nat} (hb : b.length = 32) (h : j < 32) : (keyTo b j).set j (b.getD j 0) = keyTo b (j + 1) := by
  unfold keyTo
  rw [List.set_append_right _ _ (by simp; omega), List.length_take, Nat.min_eq_left (by omega), Nat.sub_self, show 32 - j = (32 - (j + 1)) + 1 by omega, List.replicate_succ, List.set_cons_zero, List.take_succ_eq_append_getElem (by omega), List.append_assoc]
  simp [List.getD, hb, h]
theorem byteV_setH (l : List Int) (i : Nat) (x : Int) : byteV (l.set i x) = (byteV l).set i (.int .u8 x) := by simp [byteV, List.map_set]
theorem Tryd.zeroArr : ∀ w, (zeroValue 73).run Tryd.prog w = .ok (.agg (byteV zk).toArray) w := fun w => by kernel_rfl
theorem Tryd.undArr : Tryd.prog.underlying 73 = some (.array 32 5) := by kernel_rfl
theorem Tryd.infoArr : (Tryd.prog.info? 73).map (·.size) = some 32 := by kernel_rfl
theorem byteV_oneH {l : List Int} : ∀ v ∈ byteV l, v.oneCell' = true := fun v hv => by obtain ⟨x, _, rfl⟩ := List.mem_map.1 hv; rfl
theorem byteV_lenH (l : List Int) : (byteV l).length = l.length := by simp [byteV]
set_option maxRecDepth 20000 in
set_option maxHeartbeats 1600000 in
theorem rfKey_ok {w : World} {g cap at_ : Nat} {a : Option Addr} {l : List Int} (h : IsRf w g a cap l at_ 0 false 0) (hn : at_ + 32 ≤ l.length) (hl : l.length ≤ 100000) :
    Calls Tryd.prog 93 #[.pointer (some ⟨g, 0, none⟩)] w (RfOk (.agg (byteV (cutL l at_ 32)).toArray) g a cap l (at_ + 32) 0 false 0 w) := by
  obtain ⟨wA, gr, hgr, hbr, hwA, hkA⟩ := alloc1H w (byteV zk) 73
  have HWA : Hid (w.alloc (.cells (byteV zk).toArray 73) = wA) := Lib.hid hwA.symm
  have HGR := Lib.hid hgr.symm
  have hgl := h.obj.lt
  have HRL := Lib.hid h.oldRow
  have HT := Lib.hid (rfRaw_ok (h.keep0 hkA) 32 hn hl)
  have HC := Lib.hid (And.intro (cutL_length l at_ 32 hn) (cutL_wf h.row.wf at_ 32))
  have HBR := Lib.hid (And.intro hbr hkA)
  have hgg : gr ≠ g := by omega
  have hgw : w.heap.size ≤ gr := Nat.le_of_eq hgr.symm
  have hzv := Tryd.zeroArr
  have hzl : (byteV zk).length = 32 := by rw [byteV_lenH]; exact zk_len
  have HZL := Lib.hid hzl
  have HK0 : Hid (∀ b, byteV (keyTo b 0) = byteV zk) := Lib.hid (fun b => by rw [keyTo_zero])
  clear h hgr hbr hwA hkA hzl
  generalize byteV zk = ZV at *
  go_enter Tryd.func93, Tryd.ntmps93
  go_upto_region 1 with fail
  rw [HWA.out, HGR.out]
  go_wp2_with fail
  refine HT.out.mono ?_
  rintro e w2 ⟨a', c', rfl, ho, hfar, h2, hk2⟩
  have hr := ho.row HC.out.2
  rw [HC.out.1] at hr ⊢
  obtain ⟨wB, gk, hgk, hbk, hwB, hkB⟩ := alloc1H w2 ZV 73
  have HWB : Hid (w2.alloc (.cells ZV.toArray 73) = wB) := Lib.hid hwB.symm
  have HGK := Lib.hid hgk.symm
  have hbr2 := (HBR.out.1.keep hk2 (fun e => hgg e)).keep0 hkB
  have H2 := Lib.hid (And.intro (h2.keep0 hkB) (And.intro ((HBR.out.2.nil.trans hk2).trans hkB.nil) hbr2))
  have hrB := hr.keep hkB
  obtain ⟨b, off, ha, hbl, hcell⟩ := hrB.cell (by omega)
  subst ha
  have hgb : gk ≠ b := fun e => by obtain ⟨b', o', e1, e2, _⟩ := hr.cell (by omega); cases e1; omega
  have hgkr : gk ≠ gr := fun e => by have := (HBR.out.1.keep hk2 (fun e => hgg e)).lt; omega
  have hgkg : gk ≠ g := fun e => by have := h2.obj.lt; omega
  have hgkw : w.heap.size ≤ gk := by have := HBR.out.2.size; have := hk2.size; omega
  have HCE := Lib.hid hcell
  have HBK := Lib.hid hbk
  generalize hBB : cutL l at_ 32 = B at *
  have HBY := Lib.hid (fun i (hi : i < 32) => show 0 ≤ B.getD i 0 ∧ B.getD i 0 ≤ 255 from u8_wf (HC.out.2 _ (by have := HC.out.1; simp [List.getD, show i < B.length by omega])))
  clear hgk hbk hwB hkB hr hrB hcell ho hfar h2 hk2 hbr2 HT hBB
  go_upto_region 3 with fail
  rw [HWB.out, HGK.out]
  go_wp2_with fail
  go_loopw [5] (fun x wr => ∃ (j : Nat), x = .int .i64 j ∧ j ≤ 32 ∧ Hid (Blk wr gk (byteV (keyTo B j)) 73) ∧ Hid (Keeps (One gk) wB wr)) (fun x _ => 32 - (intOf x).toNat)
  case atStart => exact ⟨0, rfl, by omega, Lib.hid (by rw [HK0.out]; exact HBK.out), Lib.hid (Keeps.refl _ _)⟩
  case round =>
    obtain ⟨j, rfl, hj, hB, hkj⟩ := hrel
    by_cases hj32 : j < 32
    · have hj1 : (j : Int) < 32 := by omega
      have hj0 : (0 : Int) ≤ j := by omega
      have hcs := hkj.out.cell (HCE.out j hj32) (fun e => hgb (show b = gk from e).symm)
      have hby := HBY.out j hj32
      have hcd : wr.cell? ⟨gk, j, none⟩ = some (.int .u8 ((keyTo B j).getD j 0)) := hB.out.cell j (by unfold byteV; rw [List.getElem?_map]; have := keyTo_len HC.out.1 (show j ≤ 32 by omega); simp [List.getD, show j < (keyTo B j).length by omega])
      have hfz := hB.out.frozen j
      have HN := Lib.hid (show Blk (wr.setCell ⟨gk, j, none⟩ (.int .u8 (B.getD j 0))) gk (byteV (keyTo B (j + 1))) 73 ∧ Keeps (One gk) wB (wr.setCell ⟨gk, j, none⟩ (.int .u8 (B.getD j 0))) from ⟨by rw [← keyTo_succ HC.out.1 hj32, byteV_setH]; exact hB.out.set j _, hkj.out.setOne j _⟩)
      generalize B.getD j 0 = x at *
      generalize (keyTo B j).getD j 0 = y at *
      go_wp2_with fail
      exact ⟨⟨j + 1, by go_num, by omega, Lib.hid HN.out.1, Lib.hid HN.out.2⟩, by first | (simp [intOf]; done) | (simp [intOf]; omega)⟩
    · obtain rfl : j = 32 := by omega
      have hb32 := hB.out
      rw [keyTo_all HC.out.1] at hb32
      have hbr := H2.out.2.2.keep hkj.out (fun e => hgkr (show gr = gk from e).symm)
      have hbl : (byteV B).length = 32 := by rw [byteV_lenH]; exact HC.out.1
      have HQ := Lib.hid (And.intro hb32 (And.intro hbr hbl))
      have HIA : Hid ((Tryd.prog.info? 73).map (·.size) = some (byteV B).length) := Lib.hid (by rw [hbl]; exact Tryd.infoArr)
      have HLZ : Hid ((byteV B).length = ZV.length) := Lib.hid (by rw [hbl, HZL.out])
      clear hb32 hbr hbl hB
      go_wp2_with (first
        | (refine wpl_load rfl 73 _ rfl gk rfl HQ.out.1 _ Tryd.undArr rfl HIA.out ?_)
        | (refine wpl_store rfl 73 _ _ rfl gr rfl (byteV B) rfl HQ.out.2.1 HLZ.out HIA.out byteV_oneH ?_))
      intro w6 hb6 hk6 _
      go_wp2_with fail
      refine ret_blk Tryd.results93 gr rfl hb6 _ Tryd.undArr rfl HIA.out rfl ⟨rfl, ?_, ?_⟩
      · exact (H2.out.1.keep hkj.out (fun e => hgkg (show g = gk from e).symm) (fun h0 b' hb' e => by have h1 := HRL.out h0 b' hb'; have h2 : b' = gk := e; omega)).keep hk6 (fun e => hgg (show g = gr from e).symm) (fun h0 b' hb' e => by have h1 := HRL.out h0 b' hb'; have h2 : b' = gr := e; omega)
      · exact (H2.out.2.1.step hkj.out (fun i hi => .inr (by rw [show i = gk from hi]; exact hgkw))).step hk6 (fun i hi => .inr (by rw [show i = gr from hi]; exact hgw))
set_option maxRecDepth 20000 in
set_option maxHeartbeats 1600000 in
theorem rfKey_short {w : World} {g cap at_ : Nat} {a : Option Addr} {l : List Int} (h : IsRf w g a cap l at_ 0 false 0) (hn : l.length < at_ + 32) :
    Calls Tryd.prog 93 #[.pointer (some ⟨g, 0, none⟩)] w (RfOk (.agg (byteV zk).toArray) g a cap l at_ 103 true at_ w) := by
  obtain ⟨wA, gr, hgr, hbr, hwA, hkA⟩ := alloc1H w (byteV zk) 73
  have HWA : Hid (w.alloc (.cells (byteV zk).toArray 73) = wA) := Lib.hid hwA.symm
  have HGR := Lib.hid hgr.symm
  have hgl := h.obj.lt
  have HRL := Lib.hid h.oldRow
  have HT := Lib.hid (rfRaw_short (h.keep0 hkA) 32 hn (by omega))
  have HBR := Lib.hid (And.intro hbr hkA)
  have hgg : gr ≠ g := by omega
  have hgw : w.heap.size ≤ gr := Nat.le_of_eq hgr.symm
  have hzv := Tryd.zeroArr
  have hzl : (byteV zk).length = 32 := by rw [byteV_lenH]; exact zk_len
  have HZL := Lib.hid hzl
  have HZ1 : Hid (∀ v ∈ byteV zk, v.oneCell' = true) := Lib.hid byteV_oneH
  clear h hgr hbr hwA hkA hzl
  generalize byteV zk = ZV at *
  go_enter Tryd.func93, Tryd.ntmps93
  go_upto_region 1 with fail
  rw [HWA.out, HGR.out]
  go_wp2_with fail
  refine HT.out.mono ?_
  rintro e w2 ⟨rfl, h2, hk2⟩
  obtain ⟨wB, gk, hgk, hbk, hwB, hkB⟩ := alloc1H w2 ZV 73
  have HWB : Hid (w2.alloc (.cells ZV.toArray 73) = wB) := Lib.hid hwB.symm
  have HGK := Lib.hid hgk.symm
  have hbr2 := (HBR.out.1.keep hk2 (fun e => hgg e)).keep0 hkB
  have H2 := Lib.hid (And.intro (h2.keep0 hkB) (And.intro ((HBR.out.2.nil.trans hk2).trans hkB.nil) (And.intro hbr2 hbk)))
  have HIA : Hid ((Tryd.prog.info? 73).map (·.size) = some ZV.length) := Lib.hid (by rw [HZL.out]; exact Tryd.infoArr)
  clear hgk hbk hwB hkB h2 hk2 hbr2 HT HBR
  go_upto_region 3 with fail
  rw [HWB.out, HGK.out]
  go_wp2_with fail
  go_loopw [5] (fun x wr => x = .int .i64 0 ∧ wB = wr) (fun x _ => 0)
  case atStart => exact ⟨rfl, rfl⟩
  case round =>
    obtain ⟨rfl, rfl⟩ := hrel
    go_wp2_with (first
      | (refine wpl_load rfl 73 _ rfl gk rfl H2.out.2.2.2 _ Tryd.undArr rfl HIA.out ?_)
      | (refine wpl_store rfl 73 _ _ rfl gr rfl ZV rfl H2.out.2.2.1 rfl HIA.out HZ1.out ?_))
    intro w6 hb6 hk6 _
    go_wp2_with fail
    refine ret_blk Tryd.results93 gr rfl hb6 _ Tryd.undArr rfl HIA.out rfl ⟨rfl, ?_, ?_⟩
    · exact H2.out.1.keep hk6 (fun e => hgg (show g = gr from e).symm) (fun h0 b' hb' e => by have h1 := HRL.out h0 b' hb'; have h2 : b' = gr := e; omega)
    · exact H2.out.2.1.step hk6 (fun i hi => .inr (by rw [show i = gr from hi]; exact hgw))
end Go.Proofs.YtdkfhfflhglmaaaDoor
