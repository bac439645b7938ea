/-
  Chapter 13: HeadSays' walk.
-/
import Derived.Test.YtdkfhfflhglmaaaDoorRefHead4
import Derived.Test.YtdkfhfflhglmaaaDoorHeadEql
namespace Go.Proofs.YtdkfhfflhglmaaaDoor
set_option linter.unusedSimpArgs false
set_option linter.unusedVariables false
open Go.RowKit

/-- A binary operation whose run is known yields its value. -/
theorem yieldsIf_bin {P : Program} {ops : Array Oper} {S : World → Prop} {o : Oper} {a : Act} (hw : Region.wanted o (yielded ops a.tmps) = true) (op : BinOp) (t : TypeId) (x y : Operand) (t' : TypeId) (ho : o.op = .binOp op t x y t') (vx vy : Value) (hx : a.eval x = vx) (hy : a.eval y = vy)
    (v : Value) (hr : ∀ w, (binOp op t vx vy).run P w = .ok v w) (hg : ∀ w, (eqGuard op t x y vx vy).run P w = .ok () w) : YieldsIf P ops S o v a :=
  .inl ⟨hw, fun w _ => by
    unfold execOp
    simp only [ho, hx, hy, Sem.run_bind, hr, hg, Result.andThen_ok]
    rfl⟩
theorem Tryd.eqgHd : Tryd.prog.eqGuardType Tryd.prog.depth 76 = false := by kernel_rfl
theorem Tryd.guardHd (op : BinOp) (x y : Operand) (xs ys : Array Value) (w : World) : (eqGuard op 76 x y (.agg xs) (.agg ys)).run Tryd.prog w = .ok () w := run_eqGuard_agg w op _ x y xs ys Tryd.eqgHd
theorem num4_wf {l : List Int} (h : ∀ x ∈ l, (Lit.int .u8 x).wf = true) {t : Nat} (ht : t + 4 ≤ l.length) : 0 ≤ num4 l t ∧ num4 l t < 4294967296 := by
  have key : ∀ i, i < l.length → 0 ≤ l.getD i 0 ∧ l.getD i 0 ≤ 255 := fun i hi => u8_wf (h _ (by simp [List.getD, hi]))
  have h0 := key t (by omega)
  have h1 := key (t + 1) (by omega)
  have h2 := key (t + 2) (by omega)
  have h3 := key (t + 3) (by omega)
  unfold num4
  omega
/-- The header that bytes tell is a header. -/
theorem readH_ex {l : List Int} (h : ∀ x ∈ l, (Lit.int .u8 x).wf = true) : ∃ k pn n, readH l = headV k pn n ∧ IsHead k pn n := by
  unfold readH
  by_cases h40 : l.length = 40
  · rw [if_pos h40]
    exact ⟨_, _, _, rfl, by rw [List.length_take]; omega, fun x hx => by have := u8_wf (h x (List.mem_of_mem_take hx)); omega, num4_wf h (by omega), num4_wf h (by omega)⟩
  · rw [if_neg h40]
    exact ⟨zk, 0, 0, rfl, zk_head⟩
theorem Tryd.eqlSame {l : List Int} (h : ∀ x ∈ l, (Lit.int .u8 x).wf = true) (w : World) : (binOp .eql 76 (.agg (readH l).toArray) (.agg (readH l).toArray)).run Tryd.prog w = .ok (.bool true) w := by
  obtain ⟨k, pn, n, he, hh⟩ := readH_ex h
  rw [he, Tryd.eqlHead hh hh]
  simp
/-- What Cut hands back, whatever bytes there are. -/
def HCutPost (p : Nat → Addr) (l : List Int) (w : World) (e : Ending) (w' : World) : Prop :=
  ∃ a cap v, e = .returned (.tuple #[.agg (readH (l.take 40)).toArray, .slice a (l.drop 40).length cap, v]) ∧ IsErr w' p v (readC (l.take 40).length) (readP (l.take 40).length) (readQ (l.take 40).length) ∧ Row .u8 w' a (l.drop 40).length (l.drop 40) ∧ FreshAt w v ∧ Keeps Nil w w'
theorem num4_takeS {l : List Int} {t m : Nat} (h : t + 4 ≤ m) : num4 (l.take m) t = num4 l t := by
  have key : ∀ i, i < m → (l.take m).getD i 0 = l.getD i 0 := fun i hi => by simp [List.getD, List.getElem?_take, hi]
  unfold num4
  rw [key t (by omega), key (t + 1) (by omega), key (t + 2) (by omega), key (t + 3) (by omega)]
theorem headCut_all {w : World} {p : Nat → Addr} (hE : Errs w p) {a : Option Addr} {len capb : Nat} {l : List Int} (hrow : Row .u8 w a len l) (hnil : a = none → capb = 0 ∧ len = 0) (hcap : len ≤ capb) (hlen : len ≤ 100000) :
    Calls Tryd.prog 62 #[.slice a len capb] w (HCutPost p l w) := by
  have hl := hrow.llen
  by_cases h40 : len < 40
  · refine (headCut_bad hE hrow hnil hcap h40).mono ?_
    rintro e w' ⟨v, he, hI, hf, hk⟩
    have ht : l.take 40 = l := List.take_of_length_le (by omega)
    have hd : l.drop 40 = [] := by rw [List.drop_eq_nil_iff]; omega
    have hn40 : ¬ l.length = 40 := by omega
    have hlt : l.length < 40 := by omega
    unfold HCutPost
    rw [ht, hd]
    refine ⟨none, 0, v, ?_, ?_, ⟨rfl, by simp, fun h => by simp at h, fun x hx => by cases hx⟩, hf, hk⟩
    · unfold readH
      rw [if_neg hn40]
      exact he
    · unfold readC readP readQ
      rw [if_neg hn40, if_pos hlt, if_neg hn40, if_pos hlt, decide_eq_true hn40]
      exact hI
  · obtain ⟨b, off, ha, _⟩ := hrow.cell (by omega)
    subst ha
    refine (headCut_ok hE hrow hcap (by omega) hlen).mono ?_
    rintro e w' ⟨a', cap', he, ho, hk, hf⟩
    have hdl : (l.drop 40).length = l.length - 40 := List.length_drop
    have htl : (l.take 40).length = 40 := by rw [List.length_take]; omega
    refine ⟨a', cap', .nilIface, ?_, ?_, ?_, freshAt_nil _, hk⟩
    · rw [he, hdl]
      unfold readH
      rw [if_pos htl, List.take_take, num4_takeS (by omega), num4_takeS (by omega), show min 32 40 = 32 from rfl]
    · rw [htl]
      exact .inl ⟨rfl, rfl, rfl, rfl⟩
    · rw [hdl]
      exact ho.row (fun x hx => hrow.wf x (List.mem_of_mem_drop hx))
theorem sameL_reflS (l : List Int) : sameL l l = true := by simp [sameL]
/-- An error that is the document's. -/
theorem same_O {w : World} {p : Nat → Addr} (h : Errs w p) {v : Value} {c : Int} {pl : Bool} {q : Int} (hv : IsErr w p v c pl q) :
    Calls Tryd.prog 41 #[v, .agg #[.int .i64 c, .bool pl, .int .i64 q]] w fun e w' => e = .returned (.bool true) ∧ Keeps Nil w w' :=
  (same_walk h hv c pl q).mono (by
    rintro e w' ⟨he, hk⟩
    exact ⟨he.trans (by simp [sameF]), hk⟩)
set_option maxRecDepth 100000 in
set_option maxHeartbeats 3200000 in
theorem headSays_walk (k : List Int) (pn n : Int) (a : Option Addr) (len cap : Nat) (z : List Int) (w : World) (w0 : IsHead k pn n) (w1 : IsRow .u8 w a len cap z) {p : Nat → Addr} (hE : Errs w p) :
    Calls Tryd.prog 12 #[.agg (headV k pn n).toArray, .slice a len cap] w fun e w' => e = .returned (.bool true) ∧ Keeps Nil w w' := by
  have hrow := Row.of_isRow w1
  have hnil : a = none → cap = 0 ∧ len = 0 := fun h => w1.nil h
  have hcap : len ≤ cap := by rcases w1 with ⟨_, h1, h2, _⟩ | ⟨_, _, h1, _⟩ <;> omega
  generalize z.take len = l at *
  have hl := hrow.llen
  have hm := hrow.most
  clear w1
  obtain ⟨wA, g2, hg2, hb2, hwA, hkA⟩ := alloc1H w (headV k pn n) 76
  have HWA : Hid (w.alloc (.cells (headV k pn n).toArray 76) = wA) := Lib.hid hwA.symm
  have HG2 := Lib.hid hg2.symm
  have hgw : w.heap.size ≤ g2 := Nat.le_of_eq hg2.symm
  have HA := Lib.hid (And.intro hb2 (And.intro hkA (hE.keep hkA)))
  have HFI := Lib.hid (headfirst_walk (hE.keep hkA))
  have HHB := Lib.hid (fun w' => headBytes_walk w0 w')
  have HRB := Lib.hid (fun w' => refHeader_walk w0 w')
  have hV34 := headV_len k pn n w0.len
  have hHB := headB_bytes w0
  have HBW := Lib.hid (show ∀ x ∈ headB k pn n, (Lit.int .u8 x).wf = true from fun x hx => by have := hHB x hx; simp [Lit.wf, IntKind.min, IntKind.max, IntKind.signed, IntKind.bits]; omega)
  clear hb2 hwA hkA hg2 w0 hHB
  generalize headV k pn n = V at *
  generalize headB k pn n = VB at *
  have HE := Lib.hid hE
  have HRW := Lib.hid hrow
  clear hE
  by_cases hlen : len ≤ 100
  · have hli : ¬ ((100 : Int) < len) := by omega
    go_enter Tryd.func12, Tryd.ntmps12
    go_upto_region 1 with fail
    rw [HG2.out, HWA.out]
    go_wp2_with fail
    refine HFI.out.mono ?_
    rintro e w2 ⟨rfl, hk2⟩
    obtain ⟨zh, hzh⟩ : ∃ zh, zh = zeroH := ⟨_, rfl⟩
    have hz34 : zh.length = 34 := by rw [hzh]; exact headV_len zk 0 0 zk_len
    have hzv : ∀ w, (zeroValue 76).run Tryd.prog w = .ok (.agg zh.toArray) w := by rw [hzh]; exact Tryd.zeroHead
    have HZ := Lib.hid hz34
    obtain ⟨H, hH⟩ : ∃ H, H = readH l := ⟨_, rfl⟩
    obtain ⟨G, hG⟩ : ∃ G, G = readH (l.take 40) := ⟨_, rfl⟩
    have hwt : ∀ x ∈ l.take 40, (Lit.int .u8 x).wf = true := fun x hx => hrow.wf x (List.mem_of_mem_take hx)
    have hlen34 : ∀ {l : List Int}, (∀ x ∈ l, (Lit.int .u8 x).wf = true) → (readH l).length = 34 ∧ ∀ v ∈ readH l, v.oneCell' = true := fun h => by
      obtain ⟨k, pn, n, he, hh⟩ := readH_ex h
      rw [he]
      exact ⟨headV_len _ _ _ hh.len, headV_one _ _ _⟩
    have HH := Lib.hid (show H.length = 34 ∧ ∀ v ∈ H, v.oneCell' = true by rw [hH]; exact hlen34 hrow.wf)
    have HGG := Lib.hid (show G.length = 34 ∧ ∀ v ∈ G, v.oneCell' = true by rw [hG]; exact hlen34 hwt)
    have HQ := Lib.hid (show (∀ w, (binOp .eql 76 (.agg H.toArray) (.agg H.toArray)).run Tryd.prog w = .ok (.bool true) w) ∧ ∀ w, (binOp .eql 76 (.agg G.toArray) (.agg G.toArray)).run Tryd.prog w = .ok (.bool true) w from ⟨fun w => by rw [hH]; exact Tryd.eqlSame hrow.wf w, fun w => by rw [hG]; exact Tryd.eqlSame hwt w⟩)
    have HIH : Hid ((Tryd.prog.info? 76).map (·.size) = some H.length) := Lib.hid (by rw [HH.out.1]; exact Tryd.infoHead)
    have HIG : Hid ((Tryd.prog.info? 76).map (·.size) = some G.length) := Lib.hid (by rw [HGG.out.1]; exact Tryd.infoHead)
    have HIV : Hid ((Tryd.prog.info? 76).map (·.size) = some V.length) := Lib.hid (by rw [hV34]; exact Tryd.infoHead)
    have HLH : Hid (H.length = zh.length ∧ G.length = zh.length) := Lib.hid ⟨by rw [HH.out.1, hz34], by rw [HGG.out.1, hz34]⟩
    obtain ⟨C1, P1, Q1, hF1⟩ : ∃ C P Q, readC l.length = C ∧ readP l.length = P ∧ readQ l.length = Q := ⟨_, _, _, rfl, rfl, rfl⟩
    obtain ⟨C2, P2, Q2, hF2⟩ : ∃ C P Q, readC (l.take 40).length = C ∧ readP (l.take 40).length = P ∧ readQ (l.take 40).length = Q := ⟨_, _, _, rfl, rfl, rfl⟩
    have HRD := Lib.hid (fun w' (hE' : Errs w' p) (hr : Row .u8 w' a len l) => show Calls Tryd.prog 60 #[.slice a len cap] w' (fun e w'' => ∃ v, e = .returned (.tuple #[.agg H.toArray, v]) ∧ IsErr w'' p v C1 P1 Q1 ∧ Keeps Nil w' w'') from (headRead_walk hE' hr hnil (by omega)).mono (fun e w'' ⟨v, h1, h2, _, h3⟩ => ⟨v, by rw [h1, hH], by rw [hF1.1, hF1.2.1, hF1.2.2] at h2; exact h2, h3⟩))
    have HRH := Lib.hid (fun w' (hr : Row .u8 w' a len l) => show Calls Tryd.prog 61 #[.slice a len cap] w' (fun e w'' => e = .returned (.tuple #[.agg H.toArray, .agg #[.int .i64 C1, .bool P1, .int .i64 Q1]]) ∧ Keeps Nil w' w'') from (readHeader_walk hr hnil hcap (by omega)).mono (fun e w'' ⟨h1, h3⟩ => ⟨by rw [h1, hH, hF1.1, hF1.2.1, hF1.2.2], h3⟩))
    have HCU := Lib.hid (fun w' (hE' : Errs w' p) (hr : Row .u8 w' a len l) => show Calls Tryd.prog 62 #[.slice a len cap] w' (fun e w'' => ∃ a' c' v, e = .returned (.tuple #[.agg G.toArray, .slice a' (l.drop 40).length c', v]) ∧ IsErr w'' p v C2 P2 Q2 ∧ Row .u8 w'' a' (l.drop 40).length (l.drop 40) ∧ Keeps Nil w' w'') from (headCut_all hE' hr hnil hcap (by omega)).mono (fun e w'' ⟨a', c', v, h1, h2, h4, _, h3⟩ => ⟨a', c', v, by rw [h1, hG], by rw [hF2.1, hF2.2.1, hF2.2.2] at h2; exact h2, h4, h3⟩))
    have HRC := Lib.hid (fun w' (hr : Row .u8 w' a len l) => show Calls Tryd.prog 63 #[.slice a len cap] w' (fun e w'' => ∃ a' c', e = .returned (.tuple #[.agg G.toArray, .slice a' (l.drop 40).length c', .agg #[.int .i64 C2, .bool P2, .int .i64 Q2]]) ∧ Row .u8 w'' a' (l.drop 40).length (l.drop 40) ∧ Keeps Nil w' w'') from (refCut_walk hr hnil hcap (by omega)).mono (fun e w'' ⟨a', c', h1, h4, h3⟩ => ⟨a', c', by rw [h1, hG, hF2.1, hF2.2.1, hF2.2.2], h4, h3⟩))
    clear hH hG hF1 hF2 hwt hlen34 hzh hrow hz34 hV34 hnil
    generalize l.drop 40 = D at *
    have hka2 := HA.out.2.1.trans hk2
    have H2 := Lib.hid (And.intro (HA.out.1.keep0 hk2) hka2)
    clear hk2 hka2 HA HFI
    go_wp2_with fail
    refine (HRD.out _ (HE.out.keep H2.out.2) (HRW.out.keep H2.out.2)).mono ?_
    rintro e w3 ⟨v3, rfl, hI3, hk3⟩
    have H3 := Lib.hid (And.intro hI3 (And.intro (H2.out.1.keep0 hk3) (H2.out.2.trans hk3)))
    clear hI3 hk3 H2 HRD
    go_wp2_with (refine wpl_store rfl 76 _ _ rfl w3.heap.size rfl H rfl (Blk.new w3 zh _) HLH.out.1 HIH.out HH.out.2 ?_)
    intro w4 hbx hkx hsx
    clear hsx
    replace hkx : Keeps Nil w3 w4 := ((Keeps.refl Nil w3).alloc _).step hkx (fun i hi => .inr (by rw [show i = w3.heap.size from hi]; exact Nat.le_refl _))
    obtain ⟨g6, hgx⟩ : ∃ g, w3.heap.size = g := ⟨_, rfl⟩
    rw [hgx] at hbx ⊢
    clear hgx
    have H4 := Lib.hid (And.intro (H3.out.1.keep hkx) (And.intro (H3.out.2.1.keep0 hkx) (And.intro (H3.out.2.2.trans hkx) hbx)))
    clear hkx hbx H3
    go_wp2_with fail
    refine (HRH.out _ (HRW.out.keep H4.out.2.2.1)).mono ?_
    rintro e w5 ⟨rfl, hk5⟩
    have H5 := Lib.hid (And.intro (H4.out.1.keep hk5) (And.intro (H4.out.2.1.keep0 hk5) (And.intro (H4.out.2.2.1.trans hk5) (H4.out.2.2.2.keep0 hk5))))
    clear hk5 H4 HRH
    go_wp2_with (refine wpl_store rfl 76 _ _ rfl w5.heap.size rfl H rfl ((Blk.new w5 zh _).alloc _) HLH.out.1 HIH.out HH.out.2 ?_)
    intro wz hbz hkz hsz
    clear hsz
    have hfz : Blk wz (w5.heap.size + 1) [.int .i64 0, .bool false, .int .i64 0] 57 := (Blk.new' (w5.alloc (.cells zh.toArray 76)) _ _ (by simp)).keep hkz (fun e => by have : w5.heap.size + 1 = w5.heap.size := e; omega)
    have hkz1 : Keeps Nil w5 wz := (((Keeps.refl Nil w5).alloc _).alloc _).step hkz (fun i hi => .inr (by rw [show i = w5.heap.size from hi]; exact Nat.le_refl _))
    have HBZ := Lib.hid (And.intro hbz (And.intro hfz hkz1))
    clear hbz hkz hfz hkz1
    go_wp2_with (refine wpl_store rfl 57 _ _ rfl (w5.heap.size + 1) rfl [.int .i64 C1, .bool P1, .int .i64 Q1] rfl HBZ.out.2.1 rfl Tryd.sizeFault (by intro v hv; simp at hv; rcases hv with rfl | rfl | rfl <;> rfl) ?_)
    intro w7 hfx hkx hsx
    clear hsx
    have hbx := HBZ.out.1.keep hkx (fun e => by have : w5.heap.size = w5.heap.size + 1 := e; omega)
    replace hkx := HBZ.out.2.2.step hkx (fun i hi => .inr (by rw [show i = w5.heap.size + 1 from hi]; omega))
    clear HBZ
    obtain ⟨g8, hgx⟩ : ∃ g, w5.heap.size = g := ⟨_, rfl⟩
    rw [hgx] at hbx hfx ⊢
    obtain ⟨g9, hgx2⟩ : ∃ g, g8 + 1 = g := ⟨_, rfl⟩
    rw [hgx2] at hfx ⊢
    clear hgx hgx2
    have H7 := Lib.hid (And.intro (H5.out.1.keep hkx) (And.intro (H5.out.2.1.keep0 hkx) (And.intro (H5.out.2.2.1.trans hkx) (And.intro (H5.out.2.2.2.keep0 hkx) (And.intro hbx hfx)))))
    clear hkx hbx hfx H5
    go_wp2_with fail
    refine (HCU.out _ (HE.out.keep H7.out.2.2.1) (HRW.out.keep H7.out.2.2.1)).mono ?_
    rintro e w8 ⟨a8, c8, v8, rfl, hI8, hr8, hk8⟩
    have H8 := Lib.hid (And.intro (H7.out.1.keep hk8) (And.intro (H7.out.2.1.keep0 hk8) (And.intro (H7.out.2.2.1.trans hk8) (And.intro (H7.out.2.2.2.1.keep0 hk8) (And.intro (H7.out.2.2.2.2.1.keep0 hk8) (And.intro (H7.out.2.2.2.2.2.keep0 hk8) (And.intro hI8 hr8)))))))
    clear hI8 hr8 hk8 H7 HCU
    go_wp2_with (refine wpl_store rfl 76 _ _ rfl w8.heap.size rfl G rfl (Blk.new w8 zh _) HLH.out.2 HIG.out HGG.out.2 ?_)
    intro w9 hbx hkx hsx
    clear hsx
    replace hkx : Keeps Nil w8 w9 := ((Keeps.refl Nil w8).alloc _).step hkx (fun i hi => .inr (by rw [show i = w8.heap.size from hi]; exact Nat.le_refl _))
    obtain ⟨g10, hgx⟩ : ∃ g, w8.heap.size = g := ⟨_, rfl⟩
    rw [hgx] at hbx ⊢
    clear hgx
    have H9 := Lib.hid (And.intro (H8.out.1.keep hkx) (And.intro (H8.out.2.1.keep0 hkx) (And.intro (H8.out.2.2.1.trans hkx) (And.intro (H8.out.2.2.2.1.keep0 hkx) (And.intro (H8.out.2.2.2.2.1.keep0 hkx) (And.intro (H8.out.2.2.2.2.2.1.keep0 hkx) (And.intro (H8.out.2.2.2.2.2.2.1.keep hkx) (And.intro (H8.out.2.2.2.2.2.2.2.keep hkx) hbx))))))))
    clear hkx hbx H8
    go_wp2_with fail
    refine (HRC.out _ (HRW.out.keep H9.out.2.2.1)).mono ?_
    rintro e w10 ⟨a10, c10, rfl, hr10, hk10⟩
    have H10 := Lib.hid (And.intro (And.intro (H9.out.1.keep hk10) (And.intro (H9.out.2.1.keep0 hk10) (And.intro (H9.out.2.2.1.trans hk10) (And.intro (H9.out.2.2.2.1.keep0 hk10) (And.intro (H9.out.2.2.2.2.1.keep0 hk10) (And.intro (H9.out.2.2.2.2.2.1.keep0 hk10) (And.intro (H9.out.2.2.2.2.2.2.1.keep hk10) (And.intro (H9.out.2.2.2.2.2.2.2.1.keep hk10) (H9.out.2.2.2.2.2.2.2.2.keep0 hk10))))))))) hr10)
    clear hr10 hk10 H9 HRC
    go_wp2_with (refine wpl_store rfl 76 _ _ rfl w10.heap.size rfl G rfl ((Blk.new w10 zh _).alloc _) HLH.out.2 HIG.out HGG.out.2 ?_)
    intro wz hbz hkz hsz
    clear hsz
    have hfz : Blk wz (w10.heap.size + 1) [.int .i64 0, .bool false, .int .i64 0] 57 := (Blk.new' (w10.alloc (.cells zh.toArray 76)) _ _ (by simp)).keep hkz (fun e => by have : w10.heap.size + 1 = w10.heap.size := e; omega)
    have hkz1 : Keeps Nil w10 wz := (((Keeps.refl Nil w10).alloc _).alloc _).step hkz (fun i hi => .inr (by rw [show i = w10.heap.size from hi]; exact Nat.le_refl _))
    have HBZ := Lib.hid (And.intro hbz (And.intro hfz hkz1))
    clear hbz hkz hfz hkz1
    go_wp2_with (refine wpl_store rfl 57 _ _ rfl (w10.heap.size + 1) rfl [.int .i64 C2, .bool P2, .int .i64 Q2] rfl HBZ.out.2.1 rfl Tryd.sizeFault (by intro v hv; simp at hv; rcases hv with rfl | rfl | rfl <;> rfl) ?_)
    intro w12 hfx hkx hsx
    clear hsx
    have hbx := HBZ.out.1.keep hkx (fun e => by have : w10.heap.size = w10.heap.size + 1 := e; omega)
    replace hkx := HBZ.out.2.2.step hkx (fun i hi => .inr (by rw [show i = w10.heap.size + 1 from hi]; omega))
    clear HBZ
    obtain ⟨g13, hgx⟩ : ∃ g, w10.heap.size = g := ⟨_, rfl⟩
    rw [hgx] at hbx hfx ⊢
    obtain ⟨g15, hgx2⟩ : ∃ g, g13 + 1 = g := ⟨_, rfl⟩
    rw [hgx2] at hfx ⊢
    clear hgx hgx2
    have H12 := Lib.hid (And.intro (H10.out.1.1.keep hkx) (And.intro (H10.out.1.2.1.keep0 hkx) (And.intro (H10.out.1.2.2.1.trans hkx) (And.intro (H10.out.1.2.2.2.1.keep0 hkx) (And.intro (H10.out.1.2.2.2.2.1.keep0 hkx) (And.intro (H10.out.1.2.2.2.2.2.1.keep0 hkx) (And.intro (H10.out.1.2.2.2.2.2.2.1.keep hkx) (And.intro (H10.out.1.2.2.2.2.2.2.2.1.keep hkx) (And.intro (H10.out.1.2.2.2.2.2.2.2.2.keep0 hkx) (And.intro (H10.out.2.keep hkx) (And.intro hbx hfx)))))))))))
    clear hkx hbx hfx H10
    go_upto_region 10 with fail
    refine wp_region_held_drew (S := fun w' => Keeps Nil w12.drew w') (by kernel_rfl) (Keeps.refl _ _) (fun hHeld => ?_)
    have hkd : Keeps Nil w12 w12.drew := (Keeps.refl Nil w12).drew
    have bV := H12.out.2.1.keep0 hkd
    have b6 := H12.out.2.2.2.1.keep0 hkd
    have b8 := H12.out.2.2.2.2.1.keep0 hkd
    have b9 := H12.out.2.2.2.2.2.1.keep0 hkd
    have b10 := H12.out.2.2.2.2.2.2.2.2.1.keep0 hkd
    have b13 := H12.out.2.2.2.2.2.2.2.2.2.2.1.keep0 hkd
    have b15 := H12.out.2.2.2.2.2.2.2.2.2.2.2.keep0 hkd
    have H13 := Lib.hid (And.intro (H12.out.1.keep hkd) (And.intro (H12.out.2.2.1.trans hkd) (And.intro (H12.out.2.2.2.2.2.2.1.keep hkd) (And.intro (H12.out.2.2.2.2.2.2.2.1.keep hkd) (H12.out.2.2.2.2.2.2.2.2.2.1.keep hkd)))))
    have hUH := Tryd.underlying76
    obtain ⟨fsF, hUF⟩ := Tryd.undFault
    have hIF := Tryd.sizeFault
    have hIV := HIV.out
    have hIH := HIH.out
    have hIG := HIG.out
    have hQ1 := HQ.out.1
    have hQ2 := HQ.out.2
    have hg := fun (U W : List Value) (x y : Operand) (w : World) => Tryd.guardHd .eql x y U.toArray W.toArray w
    clear hkd H12
    generalize w12.drew = v0 at *
    refine takeL (i := 0) (v := _) rfl (by kernel_rfl) (by kernel_rfl) (by kernel_rfl) (fun _ _ _ h => h) (Or.inl ⟨by rfl, by intro w hSw; (try dsimp only at hSw); go_simp; try with_reducible rfl⟩) (by assumption) ?_
    try simp only [Act.put, List.setIfInBounds_toArray, List.set_cons_zero, List.set_cons_succ]
    refine takeL (i := 1) (v := _) rfl (by kernel_rfl) (by kernel_rfl) (by kernel_rfl) (fun _ _ _ h => h) (Or.inl ⟨by rfl, by intro w hSw; (try dsimp only at hSw); go_simp; try with_reducible rfl⟩) (by assumption) ?_
    try simp only [Act.put, List.setIfInBounds_toArray, List.set_cons_zero, List.set_cons_succ]
    refine takeL (i := 2) (v := _) rfl (by kernel_rfl) (by kernel_rfl) (by kernel_rfl) (fun _ _ _ h => h) (yieldsIf_load_mid (by rfl) 76 _ rfl g2 0 rfl (V) _ (fun w hSw => ((bV.keep0 hSw).range0)) hUH rfl hIV) (by assumption) ?_
    try simp only [Act.put, List.setIfInBounds_toArray, List.set_cons_zero, List.set_cons_succ]
    refine takeL (i := 4) (v := _) rfl (by kernel_rfl) (by kernel_rfl) (by kernel_rfl) (fun _ _ _ h => h) (yieldsIf_load_mid (by rfl) 76 _ rfl g2 0 rfl (V) _ (fun w hSw => ((bV.keep0 hSw).range0)) hUH rfl hIV) (by assumption) ?_
    try simp only [Act.put, List.setIfInBounds_toArray, List.set_cons_zero, List.set_cons_succ]
    refine onlyL (i := 3) rfl (by kernel_rfl) (fun K hK => ?_)
    go_simp
    refine (HHB.out v0).mono ?_
    rintro e w13 ⟨a13, c13, rfl, ho13, hk13, _⟩
    have hr13 := ho13.row HBW.out
    have hh13 := hHeld.trans hk13
    refine (fun hHeld => hK _ _ hHeld ?_) (hh13)
    clear hK
    try simp only [Act.put, List.setIfInBounds_toArray, List.set_cons_zero, List.set_cons_succ]
    refine onlyL (i := 5) rfl (by kernel_rfl) (fun K hK => ?_)
    go_simp
    refine (HRB.out w13).mono ?_
    rintro e w14 ⟨a14, c14, rfl, ho14, hk14, _⟩
    have hr14 := ho14.row HBW.out
    have hh14 := hh13.trans hk14
    refine (fun hHeld => hK _ _ hHeld ?_) (hh14)
    clear hK
    try simp only [Act.put, List.setIfInBounds_toArray, List.set_cons_zero, List.set_cons_succ]
    refine onlyL (i := 6) rfl (by kernel_rfl) (fun K hK => ?_)
    go_simp
    refine (sameBytes_walk (ca := c13) (cb := c14) (hr13.keep hk14) hr14).mono ?_
    rw [sameL_reflS]
    rintro e w15 ⟨rfl, hd15⟩
    have hh15 := hh14.trans (hd15.keeps Nil)
    refine (fun hHeld => hK _ _ hHeld ?_) (hh15)
    clear hK
    try simp only [Act.put, List.setIfInBounds_toArray, List.set_cons_zero, List.set_cons_succ]
    refine takeL (i := 7) (v := _) rfl (by kernel_rfl) (by kernel_rfl) (by kernel_rfl) (fun _ _ _ h => h) (Or.inl ⟨by rfl, by intro w hSw; (try dsimp only at hSw); go_simp; try with_reducible rfl⟩) (by assumption) ?_
    try simp only [Act.put, List.setIfInBounds_toArray, List.set_cons_zero, List.set_cons_succ]
    refine takeL (i := 8) (v := _) rfl (by kernel_rfl) (by kernel_rfl) (by kernel_rfl) (fun _ _ _ h => h) (Or.inl ⟨by rfl, by intro w hSw; (try dsimp only at hSw); go_simp; try with_reducible rfl⟩) (by assumption) ?_
    try simp only [Act.put, List.setIfInBounds_toArray, List.set_cons_zero, List.set_cons_succ]
    refine takeL (i := 9) (v := _) rfl (by kernel_rfl) (by kernel_rfl) (by kernel_rfl) (fun _ _ _ h => h) (yieldsIf_load_mid (by rfl) 76 _ rfl g6 0 rfl (H) _ (fun w hSw => ((b6.keep0 hSw).range0)) hUH rfl hIH) (by assumption) ?_
    try simp only [Act.put, List.setIfInBounds_toArray, List.set_cons_zero, List.set_cons_succ]
    refine takeL (i := 10) (v := _) rfl (by kernel_rfl) (by kernel_rfl) (by kernel_rfl) (fun _ _ _ h => h) (yieldsIf_load_mid (by rfl) 76 _ rfl g8 0 rfl (H) _ (fun w hSw => ((b8.keep0 hSw).range0)) hUH rfl hIH) (by assumption) ?_
    try simp only [Act.put, List.setIfInBounds_toArray, List.set_cons_zero, List.set_cons_succ]
    refine takeL (i := 11) (v := _) rfl (by kernel_rfl) (by kernel_rfl) (by kernel_rfl) (fun _ _ _ h => h) (yieldsIf_bin (by rfl) _ _ _ _ _ rfl _ _ rfl rfl _ hQ1 (hg H H _ _)) (by assumption) ?_
    try simp only [Act.put, List.setIfInBounds_toArray, List.set_cons_zero, List.set_cons_succ]
    refine takeL (i := 12) (v := _) rfl (by kernel_rfl) (by kernel_rfl) (by kernel_rfl) (fun _ _ _ h => h) (Or.inl ⟨by rfl, by intro w hSw; (try dsimp only at hSw); go_simp; try with_reducible rfl⟩) (by assumption) ?_
    try simp only [Act.put, List.setIfInBounds_toArray, List.set_cons_zero, List.set_cons_succ]
    refine takeL (i := 13) (v := _) rfl (by kernel_rfl) (by kernel_rfl) (by kernel_rfl) (fun _ _ _ h => h) (Or.inl ⟨by rfl, by intro w hSw; (try dsimp only at hSw); go_simp; try with_reducible rfl⟩) (by assumption) ?_
    try simp only [Act.put, List.setIfInBounds_toArray, List.set_cons_zero, List.set_cons_succ]
    refine takeL (i := 14) (v := _) rfl (by kernel_rfl) (by kernel_rfl) (by kernel_rfl) (fun _ _ _ h => h) (Or.inl ⟨by rfl, by intro w hSw; (try dsimp only at hSw); go_simp; try with_reducible rfl⟩) (by assumption) ?_
    try simp only [Act.put, List.setIfInBounds_toArray, List.set_cons_zero, List.set_cons_succ]
    refine takeL (i := 15) (v := _) rfl (by kernel_rfl) (by kernel_rfl) (by kernel_rfl) (fun _ _ _ h => h) (yieldsIf_load_mid (by rfl) 57 _ rfl g9 0 rfl ([.int .i64 C1, .bool P1, .int .i64 Q1]) _ (fun w hSw => ((b9.keep0 hSw).range0)) hUF rfl hIF) (by assumption) ?_
    try simp only [Act.put, List.setIfInBounds_toArray, List.set_cons_zero, List.set_cons_succ]
    refine onlyL (i := 16) rfl (by kernel_rfl) (fun K hK => ?_)
    go_simp
    refine (same_O (HE.out.keep (H13.out.2.1.trans hh15)) (H13.out.1.keep hh15)).mono ?_
    rintro e w16 ⟨rfl, hk16⟩
    have hh16 := hh15.trans hk16
    refine (fun hHeld => hK _ _ hHeld ?_) (hh16)
    clear hK
    try simp only [Act.put, List.setIfInBounds_toArray, List.set_cons_zero, List.set_cons_succ]
    refine takeL (i := 17) (v := _) rfl (by kernel_rfl) (by kernel_rfl) (by kernel_rfl) (fun _ _ _ h => h) (Or.inl ⟨by rfl, by intro w hSw; (try dsimp only at hSw); go_simp; try with_reducible rfl⟩) (by assumption) ?_
    try simp only [Act.put, List.setIfInBounds_toArray, List.set_cons_zero, List.set_cons_succ]
    refine takeL (i := 18) (v := _) rfl (by kernel_rfl) (by kernel_rfl) (by kernel_rfl) (fun _ _ _ h => h) (Or.inl ⟨by rfl, by intro w hSw; (try dsimp only at hSw); go_simp; try with_reducible rfl⟩) (by assumption) ?_
    try simp only [Act.put, List.setIfInBounds_toArray, List.set_cons_zero, List.set_cons_succ]
    refine takeL (i := 19) (v := _) rfl (by kernel_rfl) (by kernel_rfl) (by kernel_rfl) (fun _ _ _ h => h) (yieldsIf_load_mid (by rfl) 76 _ rfl g10 0 rfl (G) _ (fun w hSw => ((b10.keep0 hSw).range0)) hUH rfl hIG) (by assumption) ?_
    try simp only [Act.put, List.setIfInBounds_toArray, List.set_cons_zero, List.set_cons_succ]
    refine takeL (i := 20) (v := _) rfl (by kernel_rfl) (by kernel_rfl) (by kernel_rfl) (fun _ _ _ h => h) (yieldsIf_load_mid (by rfl) 76 _ rfl g13 0 rfl (G) _ (fun w hSw => ((b13.keep0 hSw).range0)) hUH rfl hIG) (by assumption) ?_
    try simp only [Act.put, List.setIfInBounds_toArray, List.set_cons_zero, List.set_cons_succ]
    refine takeL (i := 21) (v := _) rfl (by kernel_rfl) (by kernel_rfl) (by kernel_rfl) (fun _ _ _ h => h) (yieldsIf_bin (by rfl) _ _ _ _ _ rfl _ _ rfl rfl _ hQ2 (hg G G _ _)) (by assumption) ?_
    try simp only [Act.put, List.setIfInBounds_toArray, List.set_cons_zero, List.set_cons_succ]
    refine takeL (i := 22) (v := _) rfl (by kernel_rfl) (by kernel_rfl) (by kernel_rfl) (fun _ _ _ h => h) (Or.inl ⟨by rfl, by intro w hSw; (try dsimp only at hSw); go_simp; try with_reducible rfl⟩) (by assumption) ?_
    try simp only [Act.put, List.setIfInBounds_toArray, List.set_cons_zero, List.set_cons_succ]
    refine takeL (i := 23) (v := _) rfl (by kernel_rfl) (by kernel_rfl) (by kernel_rfl) (fun _ _ _ h => h) (Or.inl ⟨by rfl, by intro w hSw; (try dsimp only at hSw); go_simp; try with_reducible rfl⟩) (by assumption) ?_
    try simp only [Act.put, List.setIfInBounds_toArray, List.set_cons_zero, List.set_cons_succ]
    refine takeL (i := 24) (v := _) rfl (by kernel_rfl) (by kernel_rfl) (by kernel_rfl) (fun _ _ _ h => h) (Or.inl ⟨by rfl, by intro w hSw; (try dsimp only at hSw); go_simp; try with_reducible rfl⟩) (by assumption) ?_
    try simp only [Act.put, List.setIfInBounds_toArray, List.set_cons_zero, List.set_cons_succ]
    refine takeL (i := 25) (v := _) rfl (by kernel_rfl) (by kernel_rfl) (by kernel_rfl) (fun _ _ _ h => h) (Or.inl ⟨by rfl, by intro w hSw; (try dsimp only at hSw); go_simp; try with_reducible rfl⟩) (by assumption) ?_
    try simp only [Act.put, List.setIfInBounds_toArray, List.set_cons_zero, List.set_cons_succ]
    refine onlyL (i := 26) rfl (by kernel_rfl) (fun K hK => ?_)
    go_simp
    refine (sameBytes_walk (ca := c8) (cb := c10) (H13.out.2.2.2.1.keep hh16) (H13.out.2.2.2.2.keep hh16)).mono ?_
    rw [sameL_reflS]
    rintro e w17 ⟨rfl, hd17⟩
    have hh17 := hh16.trans (hd17.keeps Nil)
    refine (fun hHeld => hK _ _ hHeld ?_) (hh17)
    clear hK
    try simp only [Act.put, List.setIfInBounds_toArray, List.set_cons_zero, List.set_cons_succ]
    refine takeL (i := 27) (v := _) rfl (by kernel_rfl) (by kernel_rfl) (by kernel_rfl) (fun _ _ _ h => h) (Or.inl ⟨by rfl, by intro w hSw; (try dsimp only at hSw); go_simp; try with_reducible rfl⟩) (by assumption) ?_
    try simp only [Act.put, List.setIfInBounds_toArray, List.set_cons_zero, List.set_cons_succ]
    refine takeL (i := 28) (v := _) rfl (by kernel_rfl) (by kernel_rfl) (by kernel_rfl) (fun _ _ _ h => h) (Or.inl ⟨by rfl, by intro w hSw; (try dsimp only at hSw); go_simp; try with_reducible rfl⟩) (by assumption) ?_
    try simp only [Act.put, List.setIfInBounds_toArray, List.set_cons_zero, List.set_cons_succ]
    refine takeL (i := 29) (v := _) rfl (by kernel_rfl) (by kernel_rfl) (by kernel_rfl) (fun _ _ _ h => h) (Or.inl ⟨by rfl, by intro w hSw; (try dsimp only at hSw); go_simp; try with_reducible rfl⟩) (by assumption) ?_
    try simp only [Act.put, List.setIfInBounds_toArray, List.set_cons_zero, List.set_cons_succ]
    refine takeL (i := 30) (v := _) rfl (by kernel_rfl) (by kernel_rfl) (by kernel_rfl) (fun _ _ _ h => h) (yieldsIf_load_mid (by rfl) 57 _ rfl g15 0 rfl ([.int .i64 C2, .bool P2, .int .i64 Q2]) _ (fun w hSw => ((b15.keep0 hSw).range0)) hUF rfl hIF) (by assumption) ?_
    try simp only [Act.put, List.setIfInBounds_toArray, List.set_cons_zero, List.set_cons_succ]
    refine onlyL (i := 31) rfl (by kernel_rfl) (fun K hK => ?_)
    go_simp
    refine (same_O (HE.out.keep (H13.out.2.1.trans hh17)) (H13.out.2.2.1.keep hh17)).mono ?_
    rintro e w18 ⟨rfl, hk18⟩
    have hh18 := hh17.trans hk18
    refine (fun hHeld => hK _ _ hHeld ?_) (hh18)
    clear hK
    try simp only [Act.put, List.setIfInBounds_toArray, List.set_cons_zero, List.set_cons_succ]
    refine takeL (i := 32) (v := _) rfl (by kernel_rfl) (by kernel_rfl) (by kernel_rfl) (fun _ _ _ h => h) (Or.inl ⟨by rfl, by intro w hSw; (try dsimp only at hSw); go_simp; try with_reducible rfl⟩) (by assumption) ?_
    try simp only [Act.put, List.setIfInBounds_toArray, List.set_cons_zero, List.set_cons_succ]
    refine takeL (i := 33) (v := _) rfl (by kernel_rfl) (by kernel_rfl) (by kernel_rfl) (fun _ _ _ h => h) (Or.inl ⟨by rfl, by intro w hSw; (try dsimp only at hSw); go_simp; try with_reducible rfl⟩) (by assumption) ?_
    try simp only [Act.put, List.setIfInBounds_toArray, List.set_cons_zero, List.set_cons_succ]
    refine wpAnyH_done (by kernel_rfl) ?_ _
    have HF := Lib.hid (H13.out.2.1.trans hh18)
    clear hr13 hr14 hh13 hh14 hh15 hh16 hh17 hh18 hd15 hd17 hk13 hk14 hk16 hk18 ho13 ho14
    go_wp2_with fail
    go_ret
    exact ⟨rfl, HF.out⟩
  · have hli : (100 : Int) < len := by omega
    go_enter Tryd.func12, Tryd.ntmps12
    go_upto_region 1 with fail
    rw [HG2.out, HWA.out]
    go_wp2_with fail
    refine HFI.out.mono ?_
    rintro e w2 ⟨rfl, hk2⟩
    have HF := Lib.hid (HA.out.2.1.trans hk2)
    clear hk2
    go_wp2_with fail
    go_ret
    exact ⟨rfl, HF.out⟩
end Go.Proofs.YtdkfhfflhglmaaaDoor
