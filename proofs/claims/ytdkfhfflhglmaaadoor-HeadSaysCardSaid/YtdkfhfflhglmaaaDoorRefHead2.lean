/-
  The document's header: ReadHeader, Header.
-/
import Derived.Test.YtdkfhfflhglmaaaDoorRefHead
namespace Go.Proofs.YtdkfhfflhglmaaaDoor
set_option linter.unusedSimpArgs false
set_option linter.unusedVariables false
open Go.RowKit

/-- A struct or an array out of each of two blocks, of two types. -/
theorem ret_blkb {P : Program} {fn : Func} {R : Ending → World → Prop} {a : Act} {w : World} {p q : Tmp} {ty ty' : TypeId} (h : fn.results = #[.cell p ty, .cell q ty']) (g g' : Nat) (hp : a.tmps.getD p undef = .pointer (some ⟨g, 0, none⟩)) (hq : a.tmps.getD q undef = .pointer (some ⟨g', 0, none⟩))
    {cs cs' : List Value} {T T' : TypeId} (hb : Blk w g cs T) (hb' : Blk w g' cs' T') (d d' : TypeDesc) (hu : P.underlying ty = some d) (hu' : P.underlying ty' = some d') (hd : d.isRow = true) (hd' : d'.isRow = true) (hi : (P.info? ty).map (·.size) = some cs.length) (hi' : (P.info? ty').map (·.size) = some cs'.length) (hdf : a.defers = [])
    (hR : R (.returned (.tuple #[.agg cs.toArray, .agg cs'.toArray])) w) : bodyPost P fn R .ret a w := by
  have hp' : a.tmps[p]?.getD undef = .pointer (some ⟨g, 0, none⟩) := by simpa using hp
  have hq' : a.tmps[q]?.getD undef = .pointer (some ⟨g', 0, none⟩) := by simpa using hq
  refine bodyPost_ret (v := .tuple #[.agg cs.toArray, .agg cs'.toArray]) ?_ hdf hR
  simp [results, h, hp', hq', asAddr, run_loadVar_row w g T ty cs.toArray (0, 0) d hb hu (by cases d <;> first | rfl | cases hd) (by simpa using hi), run_loadVar_row w g' T' ty' cs'.toArray (0, 0) d' hb' hu' (by cases d' <;> first | rfl | cases hd') (by simpa using hi')]
/-- A header out of a key alone. -/
theorem Tryd.builtHeadK {k : List Int} (h : k.length = 32) : Tryd.prog.built 76 [(0, .agg (byteV k).toArray)] = some (headV k 0 0).toArray := by
  have h1 : (byteV k).length = 32 := by rw [byteV_lenH]; exact h
  rw [built_struct (zc := zeroH) (z := .agg zeroH.toArray) (places := [(0, 32), (32, 1), (33, 1)]) (by kernel_rfl) (by kernel_rfl) Tryd.underlying76 (by kernel_rfl)]
  rw [fill_step (off := 0) (size := 32) (vs := byteV k) rfl rfl h1 (by show 0 + 32 ≤ (headV zk 0 0).length; rw [headV_len _ _ _ zk_len]; omega)]
  rw [show splice zeroH 0 (byteV k) = headV k 0 0 from splice_head zk k 0 0 zk_len h]
  rfl
/-- A reader's state, where so many bytes are wanted of so many. -/
def rhA (t n : Nat) : Nat := if t ≤ n then t else headQ n
def rhC (t n : Nat) : Int := if t ≤ n then 0 else 103
def rhP (t n : Nat) : Bool := !decide (t ≤ n)
def rhQ (t n : Nat) : Int := if t ≤ n then 0 else headQ n
def rhK (l : List Int) : List Int := if 32 ≤ l.length then l.take 32 else zk
def rhX (l : List Int) (t : Nat) : Int := if t + 4 ≤ l.length then num4 l t else 0
theorem rhK_len (l : List Int) : (rhK l).length = 32 := by
  unfold rhK
  by_cases h : 32 ≤ l.length
  · rw [if_pos h, List.length_take]; omega
  · rw [if_neg h]; exact zk_len
section
variable {w : World} {g cap : Nat} {a : Option Addr} {l : List Int}
theorem rhKey_walk (h : IsRf w g a cap l 0 0 false 0) (hl : l.length ≤ 100000) :
    Calls Tryd.prog 93 #[.pointer (some ⟨g, 0, none⟩)] w (RfOk (.agg (byteV (rhK l)).toArray) g a cap l (rhA 32 l.length) (rhC 32 l.length) (rhP 32 l.length) (rhQ 32 l.length) w) := by
  by_cases h32 : 32 ≤ l.length
  · have := rfKey_ok h (by omega) hl
    rw [show cutL l 0 32 = rhK l by unfold rhK cutL; rw [if_pos h32, List.drop_zero]] at this
    unfold rhA rhC rhP rhQ
    rw [if_pos h32, if_pos h32, if_pos h32, decide_eq_true h32]
    exact this
  · have := rfKey_short h (by omega)
    rw [show zk = rhK l by unfold rhK; rw [if_neg h32]] at this
    unfold rhA rhC rhP rhQ
    rw [if_neg h32, if_neg h32, if_neg h32, decide_eq_false h32, show headQ l.length = 0 by unfold headQ; rw [if_pos (by omega)]]
    exact this
theorem rhU32_walk {t : Nat} (ht : t = 32 ∨ t = 36) (h : IsRf w g a cap l (rhA t l.length) (rhC t l.length) (rhP t l.length) (rhQ t l.length)) (hl : l.length ≤ 100000) :
    Calls Tryd.prog 52 #[.pointer (some ⟨g, 0, none⟩)] w (RfOk (.int .u32 (rhX l t)) g a cap l (rhA (t + 4) l.length) (rhC (t + 4) l.length) (rhP (t + 4) l.length) (rhQ (t + 4) l.length) w) := by
  unfold rhA rhC rhP rhQ rhX at *
  by_cases h1 : t + 4 ≤ l.length
  · rw [if_pos (by omega), if_pos (by omega), if_pos (by omega), decide_eq_true (by omega)] at h
    rw [if_pos h1, if_pos h1, if_pos h1, if_pos h1, decide_eq_true h1]
    exact rfU32_ok h h1 hl
  · by_cases h2 : t ≤ l.length
    · rw [if_pos h2, if_pos h2, if_pos h2, decide_eq_true h2] at h
      rw [if_neg h1, if_neg h1, if_neg h1, if_neg h1, decide_eq_false h1]
      have hq : headQ l.length = t := by unfold headQ; rcases ht with rfl | rfl <;> (split <;> (try split) <;> omega)
      rw [hq]
      exact rfU32_short h (by omega)
    · rw [if_neg h2, if_neg h2, if_neg h2, decide_eq_false h2] at h
      rw [if_neg h1, if_neg h1, if_neg h1, if_neg h1, decide_eq_false h1]
      exact rfU32_bad h (by omega)
theorem rhOver_walk (h : IsRf w g a cap l (rhA 40 l.length) (rhC 40 l.length) (rhP 40 l.length) (rhQ 40 l.length)) :
    Calls Tryd.prog 58 #[.pointer (some ⟨g, 0, none⟩)] w fun e w' => e = .returned (faultV (readC l.length) (readP l.length) (readQ l.length)) ∧ Keeps (One g) w w' := by
  unfold rhA rhC rhP rhQ at h
  unfold readC readP readQ
  by_cases h1 : 40 ≤ l.length
  · rw [if_pos h1, if_pos h1, if_pos h1, decide_eq_true h1] at h
    by_cases h2 : l.length = 40
    · rw [if_pos h2, if_pos h2, decide_eq_false (by omega)]
      have hlt : ¬ 40 < l.length := by omega
      exact (rfOver_none h hlt).mono (fun e w' hh => ⟨hh.1, hh.2.nil⟩)
    · have h3 : ¬ l.length < 40 := by omega
      rw [if_neg h2, if_neg h3, if_neg h2, if_neg h3, decide_eq_true h2]
      have hlt : 40 < l.length := by omega
      exact rfOver_trail h hlt
  · rw [if_neg h1, if_neg h1, if_neg h1, decide_eq_false h1] at h
    have h2 : ¬ l.length = 40 := by omega
    have h3 : l.length < 40 := by omega
    rw [if_neg h2, if_pos h3, if_neg h2, if_pos h3, decide_eq_true h2]
    exact (rfOver_bad h (by omega)).mono (fun e w' hh => ⟨hh.1, hh.2.nil⟩)
end
/-- What ReadHeader hands back. -/
def RHeadPost (l : List Int) (w : World) (e : Ending) (w' : World) : Prop :=
  e = .returned (.tuple #[.agg (readH l).toArray, faultV (readC l.length) (readP l.length) (readQ l.length)]) ∧ Keeps Nil w w'
set_option maxRecDepth 20000 in
set_option maxHeartbeats 3200000 in
theorem readHeader_walk {w : World} {a : Option Addr} {len capb : Nat} {l : List Int} (hrow : Row .u8 w a len l) (hnil : a = none → capb = 0 ∧ len = 0) (hcap : len ≤ capb) (hlen : len ≤ 100000) :
    Calls Tryd.prog 61 #[.slice a len capb] w (RHeadPost l w) := by
  have hl := hrow.llen
  obtain ⟨zh, hzh⟩ : ∃ zh, zh = zeroH := ⟨_, rfl⟩
  have hz34 : zh.length = 34 := by rw [hzh]; exact headV_len zk 0 0 zk_len
  have HZ := Lib.hid (And.intro hzh hz34)
  have hzv : ∀ w, (zeroValue 76).run Tryd.prog w = .ok (.agg zh.toArray) w := by rw [hzh]; exact Tryd.zeroHead
  obtain ⟨wA, g2, hg2, hb2, hwA, hkA⟩ := alloc1H w zh 76
  obtain ⟨wB, g3, hg3, hb3, hwB, hkB⟩ := alloc1H wA [.int .i64 0, .bool false, .int .i64 0] 57
  obtain ⟨wC, g4, hg4, hb4, hwC, hkC⟩ := alloc1H wB [.slice a len capb, .int .i64 0, .int .i64 0, .bool false, .int .i64 0] 70
  have HWA : Hid (w.alloc (.cells zh.toArray 76) = wA) := Lib.hid hwA.symm
  have HWB : Hid (wA.alloc (.cells #[.int .i64 0, .bool false, .int .i64 0] 57) = wB) := Lib.hid hwB.symm
  have HWC : Hid (wB.alloc (.cells #[.slice a len capb, .int .i64 0, .int .i64 0, .bool false, .int .i64 0] 70) = wC) := Lib.hid hwC.symm
  have hlt2 := hb2.lt
  have hlt3 := hb3.lt
  have hg3e : w.heap.size + 1 = g3 := by rw [hg3, hwA]; simp
  have hg4e : w.heap.size + 1 + 1 = g4 := by rw [hg4, hwB, hwA]; simp
  have HG2 := Lib.hid hg2.symm
  have HG3 := Lib.hid hg3e
  have HG4 := Lib.hid hg4e
  have hrow2 : Row .u8 wC a l.length l := by rw [hl]; exact ((hrow.keep hkA).keep hkB).keep hkC
  have hrl : 0 < l.length → ∀ b, blkOf a b → b < w.heap.size := fun h0 b hb => by
    obtain ⟨b', o', ha, hlt, _⟩ := hrow.cell (by omega)
    subst ha
    rw [(blkOf_some _ _ _ _).1 hb]
    exact hlt
  have hRf : IsRf wC g4 a capb l 0 0 false 0 := ⟨by rw [hl]; exact hb4, hrow2, fun e => by have := hnil e; omega, by omega, fun h0 e => by have := hrl h0 g4 e; omega, Nat.zero_le _⟩
  have HRF := Lib.hid hRf
  have HRL := Lib.hid hrl
  have hne : g2 ≠ g4 ∧ g3 ≠ g4 ∧ g2 ≠ g3 ∧ w.heap.size ≤ g2 ∧ w.heap.size ≤ g3 ∧ w.heap.size ≤ g4 := by omega
  have HNE := Lib.hid hne
  have HB := Lib.hid (And.intro ((hb2.keep0 hkB).keep0 hkC) (And.intro (hb3.keep0 hkC) ((hkA.trans hkB).trans hkC)))
  have hlm : l.length ≤ 100000 := by omega
  clear hb2 hb3 hb4 hwA hwB hwC hkA hkB hkC hg2 hg3 hg4 hg3e hg4e hrow hrow2 hRf hnil hrl hne hlt2 hlt3 hzh hz34
  go_enter Tryd.func61, Tryd.ntmps61
  go_upto_region 2 with fail
  rw [HG4.out, HG3.out, HG2.out, HWA.out, HWB.out, HWC.out]
  go_wp2_with fail
  refine (rhKey_walk HRF.out hlm).mono ?_
  rintro e w1 ⟨rfl, h1, hk1⟩
  obtain ⟨wD, g5, hg5, hb5, hwD, hkD⟩ := alloc1H w1 zh 76
  have HWD : Hid (w1.alloc (.cells zh.toArray 76) = wD) := Lib.hid hwD.symm
  have HG5 := Lib.hid hg5.symm
  have hlt4 := h1.obj.lt
  have hlt2 := (HB.out.1.keep hk1 (fun e => HNE.out.1 e)).lt
  have hlt3 := (HB.out.2.1.keep hk1 (fun e => HNE.out.2.1 e)).lt
  have hkl := rhK_len l
  have H1 := Lib.hid (And.intro (h1.keep0 hkD) (And.intro ((HB.out.1.keep hk1 (fun e => HNE.out.1 e)).keep0 hkD) (And.intro ((HB.out.2.1.keep hk1 (fun e => HNE.out.2.1 e)).keep0 hkD) ((HB.out.2.2.step hk1 (fun i hi => .inr (by rw [show i = g4 from hi]; exact HNE.out.2.2.2.2.2))).trans hkD))))
  have hws : w.heap.size ≤ g5 := by rw [hg5]; have := HB.out.2.2.size; have := hk1.size; omega
  have HN5 := Lib.hid (show g5 ≠ g2 ∧ g5 ≠ g3 ∧ g5 ≠ g4 ∧ w.heap.size ≤ g5 by omega)
  have HB5 := Lib.hid hb5
  have hbk := Tryd.builtHeadK hkl
  have HBK := Lib.hid hbk
  obtain ⟨K, hK⟩ : ∃ K, K = rhK l := ⟨_, rfl⟩
  rw [← hK] at hbk HBK hkl ⊢
  have hv34 : (headV K 0 0).length = 34 := headV_len _ _ _ hkl
  have HV := Lib.hid (And.intro hv34 (headV_one K 0 0))
  have HKK := Lib.hid (And.intro hK hkl)
  have HV0 : Hid ((headV K 0 0).length = zh.length) := Lib.hid (by rw [hv34, HZ.out.2])
  have HVI : Hid ((Tryd.prog.info? 76).map (·.size) = some (headV K 0 0).length) := Lib.hid (by rw [hv34]; exact Tryd.infoHead)
  clear h1 hk1 hb5 hwD hkD hg5 hlt4 hlt2 hlt3 hws hbk hK hv34 hkl HB
  obtain ⟨HV00, hHV00⟩ : ∃ H, H = headV K 0 0 := ⟨_, rfl⟩
  rw [← hHV00] at HBK HV HV0 HVI
  have HHV := Lib.hid hHV00
  clear hHV00
  go_wp2_with (first
    | (refine wpl_build rfl 76 _ rfl HV00 _ HBK.out (by simp [Act.eval, Act.put]) ?_)
    | (refine wpl_store rfl 76 _ _ rfl w1.heap.size rfl HV00 rfl (by rw [HG5.out, HWD.out]; exact HB5.out) HV0.out HVI.out HV.out.2 ?_))
  rw [HG5.out]
  intro w2 hb2 hk2 hs2
  clear hs2
  rw [HWD.out] at hk2
  have HR2 := Lib.hid (H1.out.1.keep hk2 (fun e => HN5.out.2.2.1 (show g4 = g5 from e).symm) (fun h0 b hb e => by have h3 := HRL.out h0 b hb; have h4 : b = g5 := e; have := HN5.out; omega))
  have H2 := Lib.hid (And.intro hb2 (And.intro (H1.out.2.1.keep hk2 (fun e => HN5.out.1 (show g2 = g5 from e).symm)) (And.intro (H1.out.2.2.1.keep hk2 (fun e => HN5.out.2.1 (show g3 = g5 from e).symm)) (H1.out.2.2.2.step hk2 (fun i hi => .inr (by rw [show i = g5 from hi]; exact HN5.out.2.2.2))))))
  clear hb2 hk2 HB5 H1 HRF HV0
  go_wp2_with fail
  refine (rhU32_walk (.inl rfl) HR2.out hlm).mono ?_
  rintro e w3 ⟨rfl, h3, hk3⟩
  rw [show 32 + 4 = 36 from rfl] at h3
  have hb3 := H2.out.1.keep hk3 (fun e => HN5.out.2.2.1 (show g5 = g4 from e))
  obtain ⟨X1, hX1⟩ : ∃ X, X = rhX l 32 := ⟨_, rfl⟩
  rw [← hX1]
  rw [HHV.out] at hb3
  have hc32 : w3.cell? ⟨g5, 32, none⟩ = some (.int .u32 0) := hb3.cell 32 (by simp [headV, HKK.out.2])
  have hz32 := hb3.frozen 32
  have hb4 := hb3.set 32 (.int .u32 X1)
  rw [headV_set32 _ _ _ _ HKK.out.2] at hb4
  have hko : Keeps (One g5) w3 (w3.setCell ⟨g5, 32, none⟩ (.int .u32 X1)) := (Keeps.refl _ _).setOne _ _
  have H4 := Lib.hid (And.intro hb4 (And.intro ((H2.out.2.1.keep hk3 (fun e => HNE.out.1 (show g2 = g4 from e))).keep hko (fun e => HN5.out.1 (show g2 = g5 from e).symm)) (And.intro ((H2.out.2.2.1.keep hk3 (fun e => HNE.out.2.1 (show g3 = g4 from e))).keep hko (fun e => HN5.out.2.1 (show g3 = g5 from e).symm)) ((H2.out.2.2.2.step hk3 (fun i hi => .inr (by rw [show i = g4 from hi]; exact HNE.out.2.2.2.2.2))).step hko (fun i hi => .inr (by rw [show i = g5 from hi]; exact HN5.out.2.2.2))))))
  have HR4 := Lib.hid (h3.keep hko (fun e => HN5.out.2.2.1 (show g4 = g5 from e).symm) (fun h0 b hb e => by have h3 := HRL.out h0 b hb; have h4 : b = g5 := e; have := HN5.out; omega))
  have HX1 := Lib.hid hX1
  clear h3 hk3 hb3 hb4 hko hX1 HR2 H2
  go_wp2_with fail
  refine (rhU32_walk (.inr rfl) HR4.out hlm).mono ?_
  rintro e w5 ⟨rfl, h5, hk5⟩
  rw [show 36 + 4 = 40 from rfl] at h5
  have hb5 := H4.out.1.keep hk5 (fun e => HN5.out.2.2.1 (show g5 = g4 from e))
  obtain ⟨X2, hX2⟩ : ∃ X, X = rhX l 36 := ⟨_, rfl⟩
  rw [← hX2]
  have hc33 : w5.cell? ⟨g5, 33, none⟩ = some (.int .u32 0) := hb5.cell 33 (by simp [headV, HKK.out.2])
  have hz33 := hb5.frozen 33
  have hb6 := hb5.set 33 (.int .u32 X2)
  rw [headV_set33 _ _ _ _ HKK.out.2] at hb6
  have hko : Keeps (One g5) w5 (w5.setCell ⟨g5, 33, none⟩ (.int .u32 X2)) := (Keeps.refl _ _).setOne _ _
  have H6 := Lib.hid (And.intro hb6 (And.intro ((H4.out.2.1.keep hk5 (fun e => HNE.out.1 (show g2 = g4 from e))).keep hko (fun e => HN5.out.1 (show g2 = g5 from e).symm)) (And.intro ((H4.out.2.2.1.keep hk5 (fun e => HNE.out.2.1 (show g3 = g4 from e))).keep hko (fun e => HN5.out.2.1 (show g3 = g5 from e).symm)) ((H4.out.2.2.2.step hk5 (fun i hi => .inr (by rw [show i = g4 from hi]; exact HNE.out.2.2.2.2.2))).step hko (fun i hi => .inr (by rw [show i = g5 from hi]; exact HN5.out.2.2.2))))))
  have HR6 := Lib.hid (h5.keep hko (fun e => HN5.out.2.2.1 (show g4 = g5 from e).symm) (fun h0 b hb e => by have h3 := HRL.out h0 b hb; have h4 : b = g5 := e; have := HN5.out; omega))
  have HX2 := Lib.hid hX2
  clear h5 hk5 hb5 hb6 hko hX2 HR4 H4 hc32 hz32
  go_wp2_with fail
  refine (rhOver_walk HR6.out).mono ?_
  rintro e w7 ⟨rfl, hk7⟩
  obtain ⟨FC, hFC⟩ : ∃ F, F = readC l.length := ⟨_, rfl⟩
  obtain ⟨FP, hFP⟩ : ∃ F, F = readP l.length := ⟨_, rfl⟩
  obtain ⟨FQ, hFQ⟩ : ∃ F, F = readQ l.length := ⟨_, rfl⟩
  rw [← hFC, ← hFP, ← hFQ]
  have HFF := Lib.hid (And.intro hFC (And.intro hFP hFQ))
  have hb7 := H6.out.1.keep hk7 (fun e => HN5.out.2.2.1 (show g5 = g4 from e))
  have hd2 := H6.out.2.1.keep hk7 (fun e => HNE.out.1 (show g2 = g4 from e))
  have hd3 := H6.out.2.2.1.keep hk7 (fun e => HNE.out.2.1 (show g3 = g4 from e))
  have hkw := H6.out.2.2.2.step hk7 (fun i hi => .inr (by rw [show i = g4 from hi]; exact HNE.out.2.2.2.2.2))
  obtain ⟨wE, g6, hg6, hb6, hwE, hkE⟩ := alloc1H w7 [.int .i64 FC, .bool FP, .int .i64 FQ] 57
  have HWE : Hid (w7.alloc (.cells #[.int .i64 FC, .bool FP, .int .i64 FQ] 57) = wE) := Lib.hid hwE.symm
  have HG6 := Lib.hid hg6.symm
  have H8 := Lib.hid (And.intro (hb7.keep0 hkE) (And.intro (hd2.keep0 hkE) (And.intro (hd3.keep0 hkE) (And.intro (hkw.trans hkE) hb6))))
  have hz6 : g6 ≠ g2 ∧ g6 ≠ g3 := by have := hd2.lt; have := hd3.lt; omega
  have HZ6 := Lib.hid hz6
  clear hFC hFP hFQ hk7 hb7 hd2 hd3 hkw hg6 hb6 hwE hkE HR6 H6 hc33 hz33 hz6
  unfold faultV
  go_wp2_with fail
  rw [HWE.out, HG6.out]
  refine (bad_walk FC FP FQ wE).mono ?_
  rintro e w9 ⟨rfl, hk9⟩
  have H9 := Lib.hid (And.intro (H8.out.1.keep0 hk9) (And.intro (H8.out.2.1.keep0 hk9) (And.intro (H8.out.2.2.1.keep0 hk9) (And.intro (H8.out.2.2.2.1.trans hk9) (H8.out.2.2.2.2.keep0 hk9)))))
  have hIF := Tryd.sizeFault
  obtain ⟨fsF, hUF⟩ := Tryd.undFault
  have hUH := Tryd.underlying76
  clear hk9 H8
  by_cases h40 : l.length = 40
  · have hfc : FC = 0 := by rw [HFF.out.1]; unfold readC; rw [if_pos h40]
    have hfcb : (FC != 0) = false := by rw [hfc]; rfl
    rw [hfcb]
    have hHH : headV K X1 X2 = readH l := by
      rw [HKK.out.1, HX1.out, HX2.out]
      unfold readH rhK rhX
      rw [if_pos h40, if_pos (by omega), if_pos (by omega), if_pos (by omega)]
    rw [hHH] at H9
    have h34 : (readH l).length = 34 := by rw [← hHH]; exact headV_len _ _ _ HKK.out.2
    have h1c : ∀ v ∈ readH l, v.oneCell' = true := by rw [← hHH]; exact headV_one _ _ _
    have hHI : (Tryd.prog.info? 76).map (·.size) = some (readH l).length := by rw [h34]; exact Tryd.infoHead
    have hHL : (readH l).length = zh.length := by rw [h34, HZ.out.2]
    obtain ⟨H, hH⟩ : ∃ H, H = readH l := ⟨_, rfl⟩
    have HHH := Lib.hid hH
    rw [← hH] at H9 h1c hHI hHL
    clear hHH h34 hfcb hfc hH
    go_upto_region 8 with fail
    refine wp_region_held_drew (S := fun w' => w'.rangeAt g5 0 H ∧ w'.rangeAt g6 0 [.int .i64 FC, .bool FP, .int .i64 FQ]) (by kernel_rfl) ⟨H9.out.1.range0, H9.out.2.2.2.2.range0⟩ (fun hHeld => ?_)
    have hkd : Keeps Nil w9 w9.drew := (Keeps.refl Nil w9).drew
    have H10 := Lib.hid (And.intro (H9.out.1.keep0 hkd) (And.intro (H9.out.2.1.keep0 hkd) (And.intro (H9.out.2.2.1.keep0 hkd) (And.intro (H9.out.2.2.2.1.trans hkd) (H9.out.2.2.2.2.keep0 hkd)))))
    clear hkd H9
    generalize w9.drew = v0 at *
    refine takeL (i := 0) (v := _) rfl (by kernel_rfl) (by kernel_rfl) (by kernel_rfl) (fun _ _ _ h => h) (yieldsIf_load_mid (by rfl) 76 _ rfl g5 0 rfl (H) _ (fun w hSw => hSw.1) hUH rfl hHI) (by assumption) ?_
    try simp only [Act.put, List.setIfInBounds_toArray, List.set_cons_zero, List.set_cons_succ]
    refine takeL (i := 1) (v := _) rfl (by kernel_rfl) (by kernel_rfl) (by kernel_rfl) (fun _ _ _ h => h) (yieldsIf_load_mid (by rfl) 57 _ rfl g6 0 rfl ([.int .i64 FC, .bool FP, .int .i64 FQ]) _ (fun w hSw => hSw.2) hUF rfl hIF) (by assumption) ?_
    try simp only [Act.put, List.setIfInBounds_toArray, List.set_cons_zero, List.set_cons_succ]
    refine onlyL (i := 2) rfl (by kernel_rfl) (fun K hK => ?_)
    refine step_store rfl 76 _ _ rfl g2 rfl H rfl H10.out.2.1 hHL hHI h1c ?_
    intro w10 hb10 hk10 hs10
    have hd3 := H10.out.2.2.1.keep hk10 (fun e => HNE.out.2.2.1 (show g3 = g2 from e).symm)
    have h6 := H10.out.2.2.2.2.keep hk10 (fun e => HZ6.out.1 (show g6 = g2 from e))
    have h5 := H10.out.1.keep hk10 (fun e => HN5.out.1 (show g5 = g2 from e))
    have hk10w := H10.out.2.2.2.1.step hk10 (fun i hi => .inr (by rw [show i = g2 from hi]; exact HNE.out.2.2.2.1))
    refine (fun hHeld => hK _ _ hHeld ?_) (⟨h5.range0, h6.range0⟩)
    clear hK
    try simp only [Act.put, List.setIfInBounds_toArray, List.set_cons_zero, List.set_cons_succ]
    refine onlyL (i := 3) rfl (by kernel_rfl) (fun K hK => ?_)
    refine step_store rfl 57 _ _ rfl g3 rfl [.int .i64 FC, .bool FP, .int .i64 FQ] rfl hd3 rfl hIF (by intro v hv; simp at hv; rcases hv with rfl | rfl | rfl <;> rfl) ?_
    intro w11 hb11 hk11 hs11
    have hc10 := hb10.keep hk11 (fun e => HNE.out.2.2.1 (show g2 = g3 from e))
    have hkF := hk10w.step hk11 (fun i hi => .inr (by rw [show i = g3 from hi]; exact HNE.out.2.2.2.2.1))
    refine (fun hHeld => hK _ _ hHeld ?_) (⟨(h5.keep hk11 (fun e => HN5.out.2.1 (show g5 = g3 from e))).range0, (h6.keep hk11 (fun e => HZ6.out.2 (show g6 = g3 from e))).range0⟩)
    clear hK
    try simp only [Act.put, List.setIfInBounds_toArray, List.set_cons_zero, List.set_cons_succ]
    refine wpAnyH_done (by kernel_rfl) ?_ _
    clear hHeld hs10 hs11 hk10 hk11 hd3 h6 h5 hk10w
    go_wp2_with fail
    refine ret_blkb Tryd.results61 g2 g3 rfl rfl hc10 hb11 _ _ hUH hUF rfl rfl hHI hIF rfl ⟨?_, hkF⟩
    rw [HFF.out.1, HFF.out.2.1, HFF.out.2.2, HHH.out]
  · have hfc : FC ≠ 0 := by rw [HFF.out.1]; unfold readC; rw [if_neg h40]; split <;> omega
    have hfcb : (FC != 0) = true := by simpa using hfc
    rw [hfcb]
    have hHH : readH l = zh := by
      unfold readH
      rw [if_neg h40, HZ.out.1]
    have hHI : (Tryd.prog.info? 76).map (·.size) = some zh.length := by rw [HZ.out.2]; exact Tryd.infoHead
    have h1c : ∀ v ∈ zh, v.oneCell' = true := by rw [HZ.out.1]; exact headV_one zk 0 0
    have hb0 : Tryd.prog.built 76 [] = some zh.toArray := by rw [HZ.out.1]; exact Tryd.builtHead0
    have HHH := Lib.hid hHH
    clear hHH hfcb hfc
    go_upto_region 7 with fail
    refine wp_region_held_drew (S := fun w' => w'.rangeAt g6 0 [.int .i64 FC, .bool FP, .int .i64 FQ]) (by kernel_rfl) H9.out.2.2.2.2.range0 (fun hHeld => ?_)
    have hkd : Keeps Nil w9 w9.drew := (Keeps.refl Nil w9).drew
    have H10 := Lib.hid (And.intro (H9.out.1.keep0 hkd) (And.intro (H9.out.2.1.keep0 hkd) (And.intro (H9.out.2.2.1.keep0 hkd) (And.intro (H9.out.2.2.2.1.trans hkd) (H9.out.2.2.2.2.keep0 hkd)))))
    clear hkd H9
    generalize w9.drew = v0 at *
    refine takeL (i := 0) (v := .agg (zh).toArray) rfl (by kernel_rfl) (by kernel_rfl) (by kernel_rfl) (fun _ _ _ h => h) (yieldsIf_build (by rfl) 76 _ rfl (zh) _ hb0 (by simp [Act.eval])) (by assumption) ?_
    try simp only [Act.put, List.setIfInBounds_toArray, List.set_cons_zero, List.set_cons_succ]
    refine takeL (i := 1) (v := _) rfl (by kernel_rfl) (by kernel_rfl) (by kernel_rfl) (fun _ _ _ h => h) (yieldsIf_load_mid (by rfl) 57 _ rfl g6 0 rfl ([.int .i64 FC, .bool FP, .int .i64 FQ]) _ (fun w hSw => hSw) hUF rfl hIF) (by assumption) ?_
    try simp only [Act.put, List.setIfInBounds_toArray, List.set_cons_zero, List.set_cons_succ]
    refine onlyL (i := 2) rfl (by kernel_rfl) (fun K hK => ?_)
    refine step_store rfl 76 _ _ rfl g2 rfl zh rfl H10.out.2.1 rfl hHI h1c ?_
    intro w10 hb10 hk10 hs10
    have hd3 := H10.out.2.2.1.keep hk10 (fun e => HNE.out.2.2.1 (show g3 = g2 from e).symm)
    have h6 := H10.out.2.2.2.2.keep hk10 (fun e => HZ6.out.1 (show g6 = g2 from e))
    have hk10w := H10.out.2.2.2.1.step hk10 (fun i hi => .inr (by rw [show i = g2 from hi]; exact HNE.out.2.2.2.1))
    refine (fun hHeld => hK _ _ hHeld ?_) (h6.range0)
    clear hK
    try simp only [Act.put, List.setIfInBounds_toArray, List.set_cons_zero, List.set_cons_succ]
    refine onlyL (i := 3) rfl (by kernel_rfl) (fun K hK => ?_)
    refine step_store rfl 57 _ _ rfl g3 rfl [.int .i64 FC, .bool FP, .int .i64 FQ] rfl hd3 rfl hIF (by intro v hv; simp at hv; rcases hv with rfl | rfl | rfl <;> rfl) ?_
    intro w11 hb11 hk11 hs11
    have hc10 := hb10.keep hk11 (fun e => HNE.out.2.2.1 (show g2 = g3 from e))
    have hkF := hk10w.step hk11 (fun i hi => .inr (by rw [show i = g3 from hi]; exact HNE.out.2.2.2.2.1))
    refine (fun hHeld => hK _ _ hHeld ?_) ((h6.keep hk11 (fun e => HZ6.out.2 (show g6 = g3 from e))).range0)
    clear hK
    try simp only [Act.put, List.setIfInBounds_toArray, List.set_cons_zero, List.set_cons_succ]
    refine wpAnyH_done (by kernel_rfl) ?_ _
    clear hHeld hs10 hs11 hk10 hk11 hd3 h6 hk10w
    go_wp2_with fail
    refine ret_blkb Tryd.results61 g2 g3 rfl rfl hc10 hb11 _ _ hUH hUF rfl rfl hHI hIF rfl ⟨?_, hkF⟩
    rw [HFF.out.1, HFF.out.2.1, HFF.out.2.2, HHH.out]
end Go.Proofs.YtdkfhfflhglmaaaDoor
