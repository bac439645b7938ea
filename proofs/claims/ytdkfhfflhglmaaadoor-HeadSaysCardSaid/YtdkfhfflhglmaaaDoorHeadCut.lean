/-
  head.Cut.
-/
import Derived.Test.YtdkfhfflhglmaaaDoorHeadFirst
import Derived.Test.YtdkfhfflhglmaaaDoorCodeRows
import Derived.Test.YtdkfhfflhglmaaaDoorRegion
namespace Go.Proofs.YtdkfhfflhglmaaaDoor
set_option linter.unusedSimpArgs false
set_option linter.unusedVariables false
open Go.RowKit

theorem ret_blk_tmp2 {P : Program} {fn : Func} {R : Ending → World → Prop} {a : Act} {w : World} {p u u2 : Tmp} {ty : TypeId} (h : fn.results = #[.cell p ty, .tmp u, .tmp u2]) (g : Nat) (hp : a.tmps.getD p undef = .pointer (some ⟨g, 0, none⟩))
    {cs : List Value} {T : TypeId} (hb : Blk w g cs T) (d : TypeDesc) (hu : P.underlying ty = some d) (hd : d.isRow = true) (hi : (P.info? ty).map (·.size) = some cs.length) {x y : Value} (hx : a.tmps.getD u undef = x) (hy : a.tmps.getD u2 undef = y) (hdf : a.defers = [])
    (hR : R (.returned (.tuple #[.agg cs.toArray, x, y])) w) : bodyPost P fn R .ret a w := by
  have hp' : a.tmps[p]?.getD undef = .pointer (some ⟨g, 0, none⟩) := by simpa using hp
  have hx' : a.tmps[u]?.getD undef = x := by simpa using hx
  have hy' : a.tmps[u2]?.getD undef = y := by simpa using hy
  refine bodyPost_ret (v := .tuple #[.agg cs.toArray, x, y]) ?_ hdf hR
  simp [results, h, hp', hx', hy', asAddr, run_loadVar_row w g T ty cs.toArray (0, 0) d hb hu (by cases d <;> first | rfl | cases hd) (by simpa using hi)]

/-- Fewer bytes than a header has. -/
def CutBad (p : Nat → Addr) (l : List Int) (w : World) (e : Ending) (w' : World) : Prop :=
  ∃ v, e = .returned (.tuple #[.agg zeroH.toArray, .slice none 0 0, v]) ∧ IsErr w' p v 103 true (headQ l.length) ∧ FreshAt w v ∧ Keeps Nil w w'

set_option maxRecDepth 20000 in
set_option maxHeartbeats 3200000 in
theorem headCut_bad {w : World} {p : Nat → Addr} (hE : Errs w p) {a : Option Addr} {len capb : Nat} {l : List Int} (hrow : Row .u8 w a len l) (hnil : a = none → capb = 0 ∧ len = 0) (hcap : len ≤ capb) (hlen : len < 40) :
    Calls Tryd.prog 62 #[.slice a len capb] w (CutBad p l w) := by
  have hl := hrow.llen
  have hzv := Tryd.zeroHead
  have hz34 : zeroH.length = 34 := headV_len zk 0 0 zk_len
  have hz1 : ∀ v ∈ zeroH, v.oneCell' = true := headV_one zk 0 0
  have HB0 := Lib.hid Tryd.builtHead0
  have hbr := Blk.new w zeroH 76
  have hka := (Keeps.refl Nil w).alloc (.cells zeroH.toArray 76)
  have hsz := size_alloc' w (.cells zeroH.toArray 76)
  have HR := Lib.hid (fun (wx : World) (hk : Keeps Nil w wx) => headRead_walk (hE.keep hk) (hrow.keep hk) hnil (by omega))
  have hH0 : readH l = zeroH := by unfold readH; rw [if_neg (by omega)]
  have e1 : readC l.length = 103 := by unfold readC; rw [if_neg (by omega), if_pos (by omega)]
  have e2 : readP l.length = true := by unfold readP; exact decide_eq_true (by omega)
  have e3 : readQ l.length = headQ l.length := by unfold readQ; rw [if_neg (by omega), if_pos (by omega)]
  have hmin : min (len : Int) 40 = len := by omega
  have hl0 : (0 : Int) ≤ len := by omega
  have hl1 : (len : Int) ≤ capb := by omega
  unfold CutBad
  generalize zeroH = zc at *
  go_enter Tryd.func62, Tryd.ntmps62
  go_wp2_with fail
  refine (HR.out _ hka).mono ?_
  rintro e w1 ⟨v, rfl, hI, hfr, hk1⟩
  rw [hH0]
  rw [e1, e2, e3] at hI
  have hbr1 := hbr.keep0 hk1
  have hk1w := hka.trans hk1
  have hfr1 : FreshAt w v := fun b hb => by have := hfr b hb; omega
  have hfr2 : ∀ b, v = .iface 96 (.pointer (some ⟨b, 0, none⟩)) → w.heap.size < b := fun b hb => by have := hfr b hb; omega
  obtain ⟨tv, xv, rfl⟩ := hI.some (by decide)
  have hb := Blk.new w1 zc 76
  have hkb := (Keeps.refl Nil w1).alloc (.cells zc.toArray 76)
  clear HR hH0 e1 e2 e3 hbr hka hrow hE hfr
  go_wp2_with (refine wpl_store rfl 76 _ _ rfl w1.heap.size rfl zc rfl hb rfl (by rw [hz34]; exact Tryd.infoHead) hz1 ?_)
  intro w2 hb2 hk2 hs2
  have hKs : Keeps (One w1.heap.size) w1 w2 := (hkb.nil (S := One w1.heap.size)).step hk2 (fun i hi => .inl hi)
  have hlt1 := hbr1.lt
  have hK2 : Keeps Nil w w2 := hk1w.step hKs (fun i hi => .inr (by rw [show i = w1.heap.size from hi]; omega))
  have hI2 := hI.keepS hKs (fun bb hbb e => by have h1 := hI.lt bb hbb; have h2 : bb = w1.heap.size := e; omega)
  have hbr2 := hbr1.keep hKs (fun e => by have : w.heap.size = w1.heap.size := e; omega)
  clear hKs hk2 hkb hb hb2 hI hbr1 hk1w hk1
  go_wp2_with (first | (refine wpl_build rfl 76 _ rfl zc _ HB0.out (by first | rfl | simp [Act.eval]) ?_) | (refine wpl_store rfl 76 _ _ rfl w.heap.size rfl zc rfl hbr2 rfl (by rw [hz34]; exact Tryd.infoHead) hz1 ?_))
  intro w3 hb3 hk3 hs3
  go_wp2_with fail
  refine ret_blk_tmp2 Tryd.results62 w.heap.size rfl hb3 _ Tryd.underlying76 rfl (by rw [hz34]; exact Tryd.infoHead) rfl rfl rfl ⟨.iface tv xv, rfl, ?_, hfr1, hK2.step hk3 (fun i hi => .inr (by rw [show i = w.heap.size from hi]; exact Nat.le_refl _))⟩
  exact hI2.keepS hk3 (fun bb hbb e => by have h1 := hfr2 bb hbb; have h2 : bb = w.heap.size := e; omega)
end Go.Proofs.YtdkfhfflhglmaaaDoor
