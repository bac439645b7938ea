/-
  The program's disk: its small calls, Read, Write.
-/
import Derived.Test.YtkefbgkdkmkghaaDoorDiskMem
import Derived.Test.YtkefbgkdkmkghaaDoorSteps
import Derived.Test.YtkefbgkdkmkghaaDoorErrO
import Derived.Deep.DeepCutAuto
import Derived.Deep.CutRange
import Derived.Deep.CutBlock
namespace Go.Proofs.YtkefbgkdkmkghaaDoor
set_option linter.unusedSimpArgs false
set_option linter.unusedVariables false
open Go.RowKit

theorem Tryd.sizeSl : (Tryd.prog.info? 25).map (·.size) = some 1 := by kernel_rfl
theorem Tryd.sizeSls : (Tryd.prog.info? 83).map (·.size) = some 1 := by kernel_rfl
theorem Tryd.infoSls : (Tryd.prog.info? 25).map (fun i => (i.zero.map (·.cells.size), i.size, i.bytes)) = some (some 1, 1, 24) := by kernel_rfl
theorem Tryd.bsSls : (Tryd.prog.info? 25).map (fun i => (i.size, i.zero.isSome)) = some (1, true) := by kernel_rfl
theorem Tryd.infoSec : (Tryd.prog.info? 85).map (·.size) = some 2 := by kernel_rfl
theorem Tryd.infoSec3 : (Tryd.prog.info? 85).map (fun i => (i.zero.map (·.cells.size), i.size, i.bytes)) = some (some 2, 2, 48) := by kernel_rfl
theorem Tryd.infoSec2 : (Tryd.prog.info? 85).map (fun i => (i.zero.map (·.cells.size), i.size)) = some (some 2, 2) := by kernel_rfl
theorem Tryd.undSec : ∃ fs, Tryd.prog.underlying 85 = some (.struct fs) := ⟨_, Tryd.underlying85⟩

/-- What a call on the disk leaves: a value, the disk as it is then. -/
def DiskP (w : World) (p : Nat) (R : Roles) (d : Dk) (v : Value) (e : Ending) (w' : World) : Prop := e = .returned v ∧ IsDisk w' p R d ∧ Keeps (Wr R) w w'
set_option maxHeartbeats 400000 in
theorem goes_walk {w : World} {p : Nat} {R : Roles} {d : Dk} {a : Option Addr} {cap : Nat} {tab : List (Value × Value)} (h : DiskAt w p R d a cap tab) (hl : -1 ≤ d.left ∧ d.left ≤ 9223372036854775807) :
    Calls Tryd.prog 48 #[.pointer (some ⟨p, 0, none⟩)] w fun e w' => e = .returned (.bool (!d.goes.off)) ∧ DiskAt w' p R d.goes a cap tab ∧ Keeps (One p) w w' := by
  have c2 := h.obj.cell 2 rfl
  have c1 := h.obj.cell 1 rfl
  have z1 := h.obj.frozen 1
  have z2 := h.obj.frozen 2
  have hH := Lib.hid h
  have hk1 := (Keeps.refl (One p) w).setOne 1 (.bool (decide (d.left = 0)))
  have hb1 := h.obj.set 1 (.bool (decide (d.left = 0)))
  by_cases h0 : d.left = 0
  · have hd1 := h.head hk1 hb1
    rw [h0] at c2
    have hg : d.goes = { d with off := decide (d.left = 0), left := d.left } := by unfold Dk.goes; rw [if_neg (by omega)]
    have HF := Lib.hid (And.intro hg (And.intro hd1 hk1))
    have hb : decide (d.left = 0) = true := by simpa using h0
    rw [hb] at HF
    clear h hd1 hk1 hb1 hg hb h0
    go_enter Tryd.func48, Tryd.ntmps48
    go_wp2_with fail
    go_ret
    exact ⟨by rw [HF.out.1]; rfl, by rw [HF.out.1]; exact HF.out.2.1, HF.out.2.2⟩
  · have hb : decide (d.left = 0) = false := by simpa using h0
    have hb0 : (d.left == 0) = false := by simpa using h0
    by_cases hp : 0 < d.left
    · have hk2 := hk1.setOne 2 (.int .i64 (d.left - 1))
      have hb2 := hb1.set 2 (.int .i64 (d.left - 1))
      have hd2 := h.head hk2 hb2
      have hg : d.goes = { d with off := decide (d.left = 0), left := d.left - 1 } := by unfold Dk.goes; rw [if_pos hp]
      have HF := Lib.hid (And.intro hg (And.intro hd2 hk2))
      rw [hb] at HF
      have hl2 : d.left ≤ 9223372036854775807 := hl.2
      clear h hd2 hk2 hk1 hb1 hb2 hg hb h0
      generalize hq : d.left = q at *
      clear hq
      go_enter Tryd.func48, Tryd.ntmps48
      go_wp2_with fail
      go_ret
      exact ⟨by rw [HF.out.1]; rfl, by rw [HF.out.1]; exact HF.out.2.1, HF.out.2.2⟩
    · have hd1 := h.head hk1 hb1
      have hg : d.goes = { d with off := decide (d.left = 0), left := d.left } := by unfold Dk.goes; rw [if_neg hp]
      have HF := Lib.hid (And.intro hg (And.intro hd1 hk1))
      rw [hb] at HF
      clear h hd1 hk1 hb1 hg hb h0
      generalize hq : d.left = q at *
      clear hq
      go_enter Tryd.func48, Tryd.ntmps48
      go_wp2_with fail
      go_ret
      exact ⟨by rw [HF.out.1]; rfl, by rw [HF.out.1]; exact HF.out.2.1, HF.out.2.2⟩
set_option maxHeartbeats 400000 in
theorem diskIs_walk {w : World} {p : Nat} {R : Roles} {d : Dk} (h : IsDisk w p R d) (i : Int) :
    Calls Tryd.prog 46 #[.pointer (some ⟨p, 0, none⟩), .int .i64 i] w fun e w' => e = .returned (.bool (decide (0 ≤ i ∧ i < d.vs.length))) ∧ w = w' := by
  obtain ⟨a, cap, tab, h⟩ := h
  have c0 := h.obj.cell 0 rfl
  clear h
  by_cases h0 : 0 ≤ i
  · have hd : decide (0 ≤ i ∧ i < d.vs.length) = decide (i < d.vs.length) := by simp [h0]
    have HD := Lib.hid hd
    clear hd
    go_enter Tryd.func46, Tryd.ntmps46
    go_wp2_with fail
    go_ret
    exact ⟨by rw [HD.out]; rfl, rfl⟩
  · have hd : decide (0 ≤ i ∧ i < d.vs.length) = false := by simp [h0]
    have HD := Lib.hid hd
    have h1 : decide (0 ≤ i) = false := by simpa using h0
    clear hd h0
    go_enter Tryd.func46, Tryd.ntmps46
    go_wp2_with fail
    go_ret
    exact ⟨by rw [HD.out]; rfl, rfl⟩
set_option maxHeartbeats 400000 in
theorem off_walk {w : World} {p : Nat} {R : Roles} {d : Dk} (h : IsDisk w p R d) :
    Calls Tryd.prog 25 #[.pointer (some ⟨p, 0, none⟩)] w fun e w' => e = .returned (.bool d.off) ∧ w = w' := by
  obtain ⟨a, cap, tab, h⟩ := h
  have c1 := h.obj.cell 1 rfl
  clear h
  go_enter Tryd.func25, Tryd.ntmps25
  go_wp2_with fail
  go_ret
  exact ⟨rfl, rfl⟩
set_option maxHeartbeats 400000 in
theorem size_walk {w : World} {p : Nat} {R : Roles} {d : Dk} (h : IsDisk w p R d) :
    Calls Tryd.prog 34 #[.pointer (some ⟨p, 0, none⟩)] w fun e w' => e = .returned (.int .i64 d.vs.length) ∧ w = w' := by
  obtain ⟨a, cap, tab, h⟩ := h
  have c0 := h.obj.cell 0 rfl
  clear h
  go_enter Tryd.func34, Tryd.ntmps34
  go_wp2_with fail
  go_ret
  exact ⟨rfl, rfl⟩
set_option maxHeartbeats 400000 in
theorem fuse_walk {w : World} {p : Nat} {R : Roles} {d : Dk} (h : IsDisk w p R d) (n : Int) :
    Calls Tryd.prog 29 #[.pointer (some ⟨p, 0, none⟩), .int .i64 n] w fun e w' => e = .returned (.tuple #[]) ∧ IsDisk w' p R (d.fuse n) ∧ Keeps (Wr R) w w' := by
  obtain ⟨a, cap, tab, h⟩ := h
  have c2 := h.obj.cell 2 rfl
  have z2 := h.obj.frozen 2
  have key : ∀ m : Int, m = max n (-1) → IsDisk (w.setCell ⟨p, 2, none⟩ (.int .i64 m)) p R (d.fuse n) ∧ Keeps (Wr R) w (w.setCell ⟨p, 2, none⟩ (.int .i64 m)) := fun m hm => by
    subst hm
    have hk := (Keeps.refl (One p) w).setOne 2 (.int .i64 (max n (-1)))
    exact ⟨(h.head hk (h.obj.set 2 (.int .i64 (max n (-1))))).is, hk.mono (fun i hi => by unfold Wr; rw [show i = p from hi, h.me]; exact Nat.le_refl _)⟩
  have HF := Lib.hid key
  clear h key
  by_cases hn : n < -1
  · go_enter Tryd.func29, Tryd.ntmps29
    go_wp2_with fail
    go_end0
    exact ⟨rfl, HF.out _ (by omega)⟩
  · have hn2 : -1 ≤ n := by omega
    go_enter Tryd.func29, Tryd.ntmps29
    go_wp2_with fail
    go_end0
    exact ⟨rfl, HF.out _ (by omega)⟩
/-- What Read hands out. -/
def Dk.readV (d : Dk) (i : Int) : List Int := if d.readE i = none then lastV (d.at_ i.toNat) else []
def ReadP (w : World) (pe : Nat → Addr) (E : Option Nat) (b : List Int) (e : Ending) (w' : World) : Prop :=
  ∃ a n cap, e = .returned (.tuple #[.slice a n cap, errO pe E]) ∧ Own w' 5 1 a cap n (byteV b) ∧ b.length = n ∧ Keeps Nil w w' ∧ (∀ k, blkOf a k → w.heap.size ≤ k)
theorem DiskAt.tabAt {w : World} {p : Nat} {R : Roles} {d : Dk} {a : Option Addr} {cap : Nat} {tab : List (Value × Value)} (h : DiskAt w p R d a cap tab) {i : Nat} (hi : i < d.vs.length) :
    ∃ g, a = some ⟨g, 0, none⟩ ∧ w.cell? ⟨g, i * 2, none⟩ = some (tab.getD i (undef, undef)).1 ∧ w.cell? ⟨g, i * 2 + 1, none⟩ = some (tab.getD i (undef, undef)).2 ∧ g < w.heap.size ∧ d.vs.length ≤ cap ∧ cap ≤ 9223372036854775807 := by
  obtain ⟨g, ha, hlt, hr⟩ := h.own.some (by omega)
  subst ha
  have hf := flatT_at tab i (by rw [h.len]; exact hi)
  have hm := h.own.2.2.1
  unfold maxLen at hm
  exact ⟨g, rfl, h.own.cellAt _ hf.1, h.own.cellAt _ hf.2, hlt, h.own.2.1, by omega⟩
theorem Tryd.zeroSec (w : World) : (zeroValue 85).run Tryd.prog w = .ok (.agg [.slice none 0 0, .slice none 0 0].toArray) w := by kernel_rfl
set_option maxRecDepth 20000 in
set_option maxHeartbeats 800000 in
theorem read_walk {w : World} {p : Nat} {R : Roles} {d : Dk} {pe : Nat → Addr} (hE : Err2 w pe) (h : IsDisk w p R d) {m : Nat} (hok : d.Ok m) (i : Int) :
    Calls Tryd.prog 18 #[.pointer (some ⟨p, 0, none⟩), .int .i64 i] w (ReadP w pe (d.readE i) (d.readV i)) := by
  have h' := h
  obtain ⟨a, cap, tab, hA⟩ := h
  have c1 := hA.obj.cell 1 rfl
  by_cases ho : d.off = true
  · have he : d.readE i = some 0 := by unfold Dk.readE; rw [if_pos ho]
    have hv : d.readV i = [] := by unfold Dk.readV; rw [he, if_neg (by simp)]
    rw [ho] at c1
    rw [he, hv]
    have g0 : w.cell? ⟨0, 0, none⟩ = some (errV pe 0) := hE.at_ 0 (by decide)
    have HV : Hid (errO pe (some 0) = errV pe 0) := Lib.hid rfl
    clear hE h' hA he hv hok
    generalize errV pe 0 = V at *
    go_enter Tryd.func18, Tryd.ntmps18
    go_wp2_with fail
    go_quiet (fail)
    go_wp2_with fail
    go_ret2
    exact ⟨none, 0, 0, by rw [HV.out]; rfl, Own.nil _ _ _, rfl, (Keeps.refl _ _).drewN _, fun k hk => (blkOf_none k hk).elim⟩
  · have ho' : d.off = false := by simpa using ho
    rw [ho'] at c1
    have HI := Lib.hid (diskIs_walk h' i)
    by_cases hi : 0 ≤ i ∧ i < d.vs.length
    · obtain ⟨k, rfl⟩ := Int.eq_ofNat_of_zero_le hi.1
      have hk : k < d.vs.length := by omega
      have he : d.readE k = none := by unfold Dk.readE; rw [if_neg ho, if_neg (by omega)]
      have hv : d.readV k = lastV (d.at_ k) := by unfold Dk.readV; rw [he, if_pos rfl]; rfl
      rw [he, hv]
      obtain ⟨g, ha, t1, t2, hgl, hcn, hcx⟩ := hA.tabAt hk
      obtain ⟨hf, hl⟩ := hA.secs k hk
      have hne := hok.some _ (Dk.at_mem hk)
      have hmm := hok.at_ hk
      have c0 := hA.obj.cell 0 rfl
      subst ha
      rw [decide_eq_true hi] at HI
      have hk0 : (0 : Int) ≤ k := by omega
      have hk1 : (k : Int) < d.vs.length := by omega
      have HO : Hid (errO pe none = .nilIface) := Lib.hid rfl
      have hll := List.length_pos_iff.2 hne
      have hlv := lastV_eq hne
      obtain ⟨la, lc, pv, hlve, hlo, hlr, hlb⟩ := hl
      rw [hlve] at t2
      have hpl := hlo.1
      have HOK := Lib.hid (And.intro hmm hpl)
      generalize hfv : (tab.getD k (undef, undef)).1 = fv at *
      clear hE h' hA he hv hok ho hne hi hfv hlve
      generalize hL : d.at_ k = L at *
      clear hL
      generalize hvn : d.vs.length = vn at *
      clear hvn
      have hzs := Tryd.zeroSec
      have hbN := Blk.new w [.slice none 0 0, .slice none 0 0] 85
      have hka := (Keeps.refl Nil w).alloc (.cells #[.slice none 0 0, .slice none 0 0] 85)
      obtain ⟨fs, hus⟩ := Tryd.undSec
      have hrg : w.rangeAt g (k * 2) [fv, .slice la (L.length - 1) lc] := fun j v hv => by
        match j, hv with
        | 0, hv => simp at hv; rw [← hv]; exact t1
        | 1, hv => simp at hv; rw [← hv]; exact t2
        | j + 2, hv => simp at hv
      have hone : ∀ v ∈ [fv, Value.slice la (L.length - 1) lc], v.oneCell' = true := fun v hv => by
        rcases List.mem_cons.1 hv with rfl | hv
        · obtain ⟨g1, o1, c1, h1, _⟩ := hf; rw [h1]; rfl
        · rw [List.mem_singleton.1 hv]; rfl
      have HUS := Lib.hid hus
      clear hus
      go_enter Tryd.func18, Tryd.ntmps18
      go_wp2_with fail
      refine HI.out.mono ?_
      rintro e w1 ⟨rfl, rfl⟩
      go_wp2_with (first | (refine wpl_load_at rfl 85 _ rfl g (k * 2) rfl [fv, .slice la (L.length - 1) lc] hrg _ HUS.out rfl Tryd.infoSec ?_) | (refine wpl_store rfl 85 _ _ rfl w.heap.size rfl [fv, .slice la (L.length - 1) lc] rfl hbN rfl Tryd.infoSec hone ?_))
      intro w2 hb2 hk2 _
      have HK2 := Lib.hid (hka.step hk2 (fun i hi => .inr (by rw [show i = w.heap.size from hi]; exact Nat.le_refl _)))
      have d0 := hb2.cell 0 rfl
      have d1 := hb2.cell 1 rfl
      clear hk2 hka hbN hrg hb2 t1 t2
      obtain ⟨q, hq⟩ : ∃ q, L.length = q + 1 := ⟨L.length - 1, by omega⟩
      have hq1 : L.length - 1 = q := by omega
      rw [hq1] at d1 hlo hlv hpl ⊢
      have HQ := Lib.hid hq
      have hbm := hlb
      clear hq hq1 hlb hll
      by_cases h0 : q = 0
      · subst h0
        have hfw := hf.keep HK2.out (fun k h1 h2 => h2) (fun _ _ => rfl)
        obtain ⟨g1, o1, cc, hfe, hrow, _, _⟩ := hfw
        rw [hfe] at d0
        have HC := Lib.hid (cloneB_walk (cap := cc) hrow (fun h => by cases h) (by omega))
        have HV := Lib.hid hlv
        have HL8 := Lib.hid hrow.llen
        clear hlv hfe hrow hf hbm hlo hone
        go_wp2_with fail
        refine HC.out.mono ?_
        rintro e w3 ⟨ar, cr, rfl, hor, qk, hfr⟩
        have HF := Lib.hid (And.intro hor (And.intro (HK2.out.trans qk) (fun k hk => Nat.le_trans HK2.out.size (hfr k hk))))
        clear hor qk hfr HC
        go_wp2_with fail
        go_ret2
        exact ⟨ar, (L.getD 0 []).length, cr, by rw [HO.out]; rfl, by rw [HV.out]; exact HF.out.1, by rw [HV.out], HF.out.2.1, HF.out.2.2⟩
      · obtain ⟨gl, hgl2, hglt, hrl⟩ := (hlo.keep0 HK2.out).some (by omega)
        have hbv := hbm (q - 1) (by rw [HQ.out]; omega)
        rw [show q - 1 + 1 = q by omega] at hbv
        have hbw := hbv.keep HK2.out (fun k h1 h2 => h2) (fun _ _ => rfl)
        obtain ⟨g1, o1, cc, hfe, hrow, _, _⟩ := hbw
        have hcl : w2.cell? ⟨gl, q - 1, none⟩ = some (.slice (some ⟨g1, o1, none⟩) 128 cc) := by
          have h1 := hrl (q - 1) (pv.getD (q - 1) undef) (by rw [List.getD_eq_getElem?_getD, List.getElem?_eq_getElem (by omega)]; simp)
          rw [Nat.zero_add, hfe] at h1
          exact h1
        subst hgl2
        have HC := Lib.hid (cloneB_walk (cap := cc) hrow (fun h => by cases h) (by omega))
        have HV := Lib.hid hlv
        have hlc := hlo.2.1
        have hq0 : (0 : Int) < q := by omega
        have hq1 : ((q - 1 : Nat) : Int) = (q : Int) - 1 := by omega
        obtain ⟨r, hr⟩ : ∃ r, r = q - 1 := ⟨_, rfl⟩
        rw [← hr] at hcl hq1
        have hr1 : (q : Int) - 1 = r := by omega
        have hr2 : (r : Int) < q := by omega
        have hr0 : (0 : Int) ≤ r := by omega
        have hqm : (q : Int) ≤ 9223372036854775807 := by
          have := hlo.2.2.1
          unfold maxLen at this
          omega
        clear hlv hfe hrow hf hbm hlo hone hbv hrl hr hq1 h0 hpl
        go_wp2_with fail
        refine HC.out.mono ?_
        rintro e w3 ⟨ar, cr, rfl, hor, qk, hfr⟩
        have HF := Lib.hid (And.intro hor (And.intro (HK2.out.trans qk) (fun k hk => Nat.le_trans HK2.out.size (hfr k hk))))
        clear hor qk hfr HC
        go_wp2_with fail
        go_ret2
        exact ⟨ar, (L.getD q []).length, cr, by rw [HO.out]; rfl, by rw [HV.out]; exact HF.out.1, by rw [HV.out], HF.out.2.1, HF.out.2.2⟩
    · have he : d.readE i = some 1 := by unfold Dk.readE; rw [if_neg ho, if_pos (by omega)]
      have hv : d.readV i = [] := by unfold Dk.readV; rw [he, if_neg (by simp)]
      rw [he, hv]
      rw [decide_eq_false hi] at HI
      have g0 : w.cell? ⟨1, 0, none⟩ = some (errV pe 1) := hE.at_ 1 (by decide)
      have HV : Hid (errO pe (some 1) = errV pe 1) := Lib.hid rfl
      clear hE h' hA he hv hok hi
      generalize errV pe 1 = V at *
      go_enter Tryd.func18, Tryd.ntmps18
      go_wp2_with fail
      refine HI.out.mono ?_
      rintro e w1 ⟨rfl, rfl⟩
      go_wp2_with fail
      go_quiet (fail)
      go_wp2_with fail
      go_ret2
      exact ⟨none, 0, 0, by rw [HV.out]; rfl, Own.nil _ _ _, rfl, (Keeps.refl _ _).drewN _, fun k hk => (blkOf_none k hk).elim⟩
/-- A contract for the clone of bytes, its block told. -/
theorem clone_block {w' : World} {a : Option Addr} {cap : Nat} {l : List Int} (ho : Own w' 5 1 a cap l.length (byteV l)) (hl : l.length = 128) (hb : AreB l) : ∃ g, a = some ⟨g, 0, none⟩ ∧ g < w'.heap.size ∧ Row .u8 w' (some ⟨g, 0, none⟩) 128 l := by
  obtain ⟨g, ha, hlt, _⟩ := ho.some (by omega)
  subst ha
  have hr := ho.row (areB_wf hb)
  rw [hl] at hr
  exact ⟨g, rfl, hlt, hr⟩
/-- No power: the error. -/
def goesE (d : Dk) : Option Nat := if d.off = true then some 0 else none
/-- What Write leaves. -/
def WriteP (w : World) (p : Nat) (R : Roles) (d : Dk) (v : Value) (e : Ending) (w' : World) : Prop := ∃ R', e = .returned v ∧ IsDisk w' p R' d ∧ Grew w w' R R'
/-- A cell's value. -/
def CellIs (w : World) (g i : Nat) (v : Value) : Prop := w.cell? ⟨g, i, none⟩ = some v
theorem CellIs.keep0 {w w' : World} {g i : Nat} {v : Value} (h : CellIs w g i v) (hk : Keeps Nil w w') : CellIs w' g i v := hk.cell h (fun h => h)
set_option maxRecDepth 20000 in
set_option maxHeartbeats 1600000 in
/-- Write where there is power, a sector, a whole one. -/
theorem writeIn_walk {w : World} {p : Nat} {R : Roles} {d : Dk} {pe : Nat → Addr} (hE : ∀ w', Keeps (Wr R) w w' → Err2 w' pe) (h : IsDisk w p R d) {m : Nat} (hok : d.Ok m) (hm9 : m ≤ 1000000) {k : Nat} (ho : d.off = false) (hk : k < d.vs.length)
    {ab : Option Addr} {cb : Nat} {b : List Int} (hb : Row .u8 w ab 128 b) :
    Calls Tryd.prog 16 #[.pointer (some ⟨p, 0, none⟩), .int .i64 k, .slice ab 128 cb] w (WriteP w p R ((d.put k b).goes) (errO pe (goesE (d.put k b).goes))) := by
  have h' := h
  obtain ⟨a, cap, tab, hA⟩ := h
  have c1 := hA.obj.cell 1 rfl
  have c0 := hA.obj.cell 0 rfl
  rw [ho] at c1
  have HI := Lib.hid (diskIs_walk h' (k : Int))
  rw [decide_eq_true (by omega)] at HI
  obtain ⟨g, ha, t1, t2, hgl, hcn, hcx⟩ := hA.tabAt hk
  have HA := Lib.hid hA
  have HOK := Lib.hid hok
  obtain ⟨hf, hl⟩ := hA.secs k hk
  obtain ⟨la, lc, pv, hlve, hlo, hlr, hlb⟩ := hl
  rw [hlve] at t2
  subst ha
  have hne := hok.some _ (Dk.at_mem hk)
  have hmm := hok.at_ hk
  have hll := List.length_pos_iff.2 hne
  have hk0 : (0 : Int) ≤ k := by omega
  have hk1 : (k : Int) < d.vs.length := by omega
  have HB := Lib.hid hb
  have HEE := Lib.hid hE
  have HL := Lib.hid (And.intro hlo (And.intro hlr (And.intro hlb (And.intro hf (And.intro hmm hll)))))
  clear h' hA hok hf hlo hlr hlb hlve hne hmm hll hE hb
  generalize hL : d.at_ k = L at *
  have HLL := Lib.hid hL
  clear hL
  generalize hvn : d.vs.length = vn at *
  have HVN := Lib.hid hvn
  clear hvn
  go_enter Tryd.func16, Tryd.ntmps16
  go_wp2_with fail
  refine HI.out.mono ?_
  rintro e w1 ⟨rfl, rfl⟩
  go_upto_region 5 with fail
  go_cut [] from 24 to 42 (fun wx => Hid (∃ R' tab', DiskAt wx p R' (d.put k b) (some ⟨g, 0, none⟩) cap tab' ∧ Grew w wx R R'))
  case first =>
    refine wp_region_held_drew (S := fun w' => w'.cell? ⟨p, 0, none⟩ = some (.slice (some ⟨g, 0, none⟩) vn cap)) (by kernel_rfl) (by exact c0) (fun hHeld => ?_)
    have hkd : Keeps Nil w w.drew := (Keeps.refl Nil w).drew
    replace c0 := hkd.cell c0 (fun h => h)
    have t2 : CellIs w.drew g (k * 2 + 1) (.slice la (L.length - 1) lc) := hkd.cell t2 (fun h => h)
    have HRW := Lib.hid (HB.out.keep hkd)
    have hlo := HL.out.1.keep0 hkd
    have HD := Lib.hid (HA.out.keep0 hkd)
    have HHD := Lib.hid hkd
    have HLB := Lib.hid (fun j hj => (HL.out.2.2.1 j hj).keep hkd (fun x h1 h2 => h2) (fun _ _ => rfl))
    have hwf := HB.out.bytes
    have hbl := HB.out.llen
    have hKw : Keeps Nil w.drew w.drew := Keeps.refl _ _
    clear t1 hkd
    generalize w.drew = v0 at *
    have hlx : L.length - 1 ≤ 1000000 := by have := HL.out.2.2.2.2.1; omega
    refine takeL (i := 0) (v := _) rfl (by kernel_rfl) (by kernel_rfl) (by kernel_rfl) (fun _ _ _ h => h) (Or.inl ⟨by rfl, by intro w hSw; (try dsimp only at hSw); go_simp; try with_reducible rfl⟩) (by assumption) ?_
    try simp only [Act.put, List.setIfInBounds_toArray, List.set_cons_zero, List.set_cons_succ]
    refine takeL (i := 1) (v := _) rfl (by kernel_rfl) (by kernel_rfl) (by kernel_rfl) (fun _ _ _ h => h) (Or.inl ⟨by rfl, by intro w hSw; (try dsimp only at hSw); go_simp; try with_reducible rfl⟩) (by assumption) ?_
    try simp only [Act.put, List.setIfInBounds_toArray, List.set_cons_zero, List.set_cons_succ]
    refine takeL (i := 2) (v := _) rfl (by kernel_rfl) (by kernel_rfl) (by kernel_rfl) (fun _ _ _ h => h) (Or.inl ⟨by rfl, by intro w hSw; (try dsimp only at hSw); go_simp; try with_reducible rfl⟩) (by assumption) ?_
    try simp only [Act.put, List.setIfInBounds_toArray, List.set_cons_zero, List.set_cons_succ]
    refine takeL (i := 3) (v := _) rfl (by kernel_rfl) (by kernel_rfl) (by kernel_rfl) (fun _ _ _ h => h) (Or.inl ⟨by rfl, by intro w hSw; (try dsimp only at hSw); go_simp; try with_reducible rfl⟩) (by assumption) ?_
    try simp only [Act.put, List.setIfInBounds_toArray, List.set_cons_zero, List.set_cons_succ]
    refine takeL (i := 4) (v := _) rfl (by kernel_rfl) (by kernel_rfl) (by kernel_rfl) (fun _ _ _ h => h) (Or.inl ⟨by rfl, by intro w hSw; (try dsimp only at hSw); go_simp; try with_reducible rfl⟩) (by assumption) ?_
    try simp only [Act.put, List.setIfInBounds_toArray, List.set_cons_zero, List.set_cons_succ]
    refine takeL (i := 5) (v := _) rfl (by kernel_rfl) (by kernel_rfl) (by kernel_rfl) (fun _ _ _ h => h) (Or.inl ⟨by rfl, by intro w hSw; (try dsimp only at hSw); go_simp; try with_reducible rfl⟩) (by assumption) ?_
    try simp only [Act.put, List.setIfInBounds_toArray, List.set_cons_zero, List.set_cons_succ]
    refine takeL (i := 6) (v := _) rfl (by kernel_rfl) (by kernel_rfl) (by kernel_rfl) (fun _ _ _ h => h) (Or.inl ⟨by rfl, by intro w hSw; (try dsimp only at hSw); go_simp; try with_reducible rfl⟩) (by assumption) ?_
    try simp only [Act.put, List.setIfInBounds_toArray, List.set_cons_zero, List.set_cons_succ]
    refine takeL (i := 7) (v := _) rfl (by kernel_rfl) (by kernel_rfl) (by kernel_rfl) (fun _ _ _ h => h) (Or.inl ⟨by rfl, by intro w hSw; (try dsimp only at hSw); go_simp; try with_reducible rfl⟩) (by assumption) ?_
    try simp only [Act.put, List.setIfInBounds_toArray, List.set_cons_zero, List.set_cons_succ]
    refine takeL (i := 8) (v := _) rfl (by kernel_rfl) (by kernel_rfl) (by kernel_rfl) (fun _ _ _ h => h) (Or.inl ⟨by rfl, by intro w hSw; (try dsimp only at hSw); go_simp; try with_reducible rfl⟩) (by assumption) ?_
    try simp only [Act.put, List.setIfInBounds_toArray, List.set_cons_zero, List.set_cons_succ]
    refine takeL (i := 9) (v := _) rfl (by kernel_rfl) (by kernel_rfl) (by kernel_rfl) (fun _ _ _ h => h) (Or.inl ⟨by rfl, by intro w hSw; (try dsimp only at hSw); go_simp; try with_reducible rfl⟩) (by assumption) ?_
    try simp only [Act.put, List.setIfInBounds_toArray, List.set_cons_zero, List.set_cons_succ]
    refine takeL (i := 10) (v := _) rfl (by kernel_rfl) (by kernel_rfl) (by kernel_rfl) (fun _ _ _ h => h) (Or.inl ⟨by rfl, by intro w hSw; (try dsimp only at hSw); go_simp; try with_reducible rfl⟩) (by assumption) ?_
    try simp only [Act.put, List.setIfInBounds_toArray, List.set_cons_zero, List.set_cons_succ]
    refine takeL (i := 11) (v := _) rfl (by kernel_rfl) (by kernel_rfl) (by kernel_rfl) (fun _ _ _ h => h) (Or.inl ⟨by rfl, by intro w hSw; (try dsimp only at hSw); go_simp; try with_reducible rfl⟩) (by assumption) ?_
    try simp only [Act.put, List.setIfInBounds_toArray, List.set_cons_zero, List.set_cons_succ]
    refine takeL (i := 13) (v := _) rfl (by kernel_rfl) (by kernel_rfl) (by kernel_rfl) (fun _ _ _ h => h) (Or.inl ⟨by rfl, by intro w hSw; (try dsimp only at hSw); go_simp; try with_reducible rfl⟩) (by assumption) ?_
    try simp only [Act.put, List.setIfInBounds_toArray, List.set_cons_zero, List.set_cons_succ]
    refine bothL (i := 12) (j := 14) rfl rfl (by kernel_rfl) (fun K hK => ?_) (fun K hK => ?_)
    · skip
      have t2c := t2
      unfold CellIs at t2c
      go_simp
      clear t2c t2
      refine (fun hHeld => hK _ _ hHeld ?_) ((hKw.cell c0 (fun h => h)))
      clear hK
      try simp only [Act.put, List.setIfInBounds_toArray, List.set_cons_zero, List.set_cons_succ]
      refine onlyL (i := 14) rfl (by kernel_rfl) (fun K hK => ?_)
      go_simp
      refine (cloneB_walk (cap := cb) (HRW.out.keep hKw) (fun h => by subst h; have := HRW.out.cell (by omega); obtain ⟨_, _, h1, _⟩ := this; cases h1) (by omega)).mono ?_
      rintro e w2 ⟨a1, cap1, rfl, ho1, qk, hf1⟩
      have ho1' : Own w2 5 1 a1 cap1 b.length (byteV b) := ho1
      rw [hbl] at ho1 ⊢
      obtain ⟨g1, hg1, hg1l, hrow1⟩ := clone_block ho1' hbl hwf
      have hg1n : v0.heap.size ≤ g1 := Nat.le_trans hKw.size (hf1 g1 (by rw [hg1]; exact (blkOf_some _ _ _ _).2 rfl))
      clear hf1 ho1 ho1' hg1l
      subst hg1
      refine (fun hHeld => hK _ _ hHeld ?_) (((hKw.trans qk).cell c0 (fun h => h)))
      clear hK
      try simp only [Act.put, List.setIfInBounds_toArray, List.set_cons_zero, List.set_cons_succ]
      replace hKw := hKw.trans qk
      refine onlyL (i := 15) rfl (by kernel_rfl) (fun K hK => ?_)
      refine step_bsK rfl 83 25 1 _ rfl [.slice (some ⟨g1, 0, none⟩) 128 cap1] Tryd.underlying83 Tryd.bsSls rfl (by decide) (by decide) (by simp [Act.eval]) (by simp [Value.cells]) ?_
      intro g2 w3 hg2 hb2 qk
      clear hg2
      refine (fun hHeld => hK _ _ hHeld ?_) (((hKw.trans qk).cell c0 (fun h => h)))
      clear hK
      try simp only [Act.put, List.setIfInBounds_toArray, List.set_cons_zero, List.set_cons_succ]
      replace hKw := hKw.trans qk
      replace hrow1 := hrow1.keep qk
      refine onlyL (i := 16) rfl (by kernel_rfl) (fun K hK => ?_)
      have hg1l := (hrow1.cell (by omega))
      refine step_appendO rfl _ _ 83 rfl 25 1 24 Tryd.underlying83 Tryd.infoSls (by omega) la lc (L.length - 1) pv rfl (hlo.keep0 hKw) (some ⟨g2, 0, none⟩) 1 1 [.slice (some ⟨g1, 0, none⟩) 128 cap1] rfl (Src.one hb2 rfl) (by unfold maxLen; omega) (by omega) ?_
      intro a4 cap4 w4 ho4 qk4 hf4
      obtain ⟨g4, hg4, _, _⟩ := ho4.some (by omega)
      subst hg4
      have hpre := HD.out.loosen_pre (by rw [HVN.out]; exact hk) HL.out.2.1 hKw qk4
      have hpost := HD.out.loosen (by rw [HVN.out]; exact hk) HLL.out HL.out.2.2.2.2.2 hlo HL.out.2.1 (HLB.out) hKw hrow1 hg1n (by obtain ⟨b', o', h1, h2, _⟩ := hg1l; cases h1; exact h2) qk4 ho4 (hf4 g4 ((blkOf_some _ _ _ _).2 rfl))
      clear hg1l
      refine (fun hHeld => hK _ _ hHeld ?_) ((qk4.cell (hKw.cell c0 (fun h => h)) hpre.2.2.1))
      clear hK
      try simp only [Act.put, List.setIfInBounds_toArray, List.set_cons_zero, List.set_cons_succ]
      refine takeL (i := 17) (v := _) rfl (by kernel_rfl) (by kernel_rfl) (by kernel_rfl) (fun _ _ _ h => h) (Or.inl ⟨by rfl, by intro w hSw; (try dsimp only at hSw); go_simp; try with_reducible rfl⟩) (by assumption) ?_
      try simp only [Act.put, List.setIfInBounds_toArray, List.set_cons_zero, List.set_cons_succ]
      refine takeL (i := 18) (v := _) rfl (by kernel_rfl) (by kernel_rfl) (by kernel_rfl) (fun _ _ _ h => h) (Or.inl ⟨by rfl, by intro w hSw; (try dsimp only at hSw); go_simp; try with_reducible rfl⟩) (by assumption) ?_
      try simp only [Act.put, List.setIfInBounds_toArray, List.set_cons_zero, List.set_cons_succ]
      refine onlyL (i := 19) rfl (by kernel_rfl) (fun K hK => ?_)
      obtain ⟨⟨vold, hcl4⟩, hfz4, _, hpg⟩ := hpre
      refine step_storeS rfl 83 Tryd.sizeSls _ _ rfl g (k * 2 + 1) rfl (some ⟨g4, 0, none⟩) (L.length - 1 + 1) cap4 rfl hcl4 hfz4 ?_
      obtain ⟨R', tab', hd5, hg5⟩ := hpost
      have hc5 := hd5.obj.cell 0 rfl
      rw [show (d.put k b).vs.length = vn by rw [← HVN.out]; simp [Dk.put]] at hc5
      refine (fun hHeld => hK _ _ hHeld ?_) (hc5)
      clear hK
      try simp only [Act.put, List.setIfInBounds_toArray, List.set_cons_zero, List.set_cons_succ]
      refine wpAnyH_done (by kernel_rfl) ?_ _
      have HF : Hid (∃ R' tab', DiskAt (w4.setCell ⟨g, k * 2 + 1, none⟩ (.slice (some ⟨g4, 0, none⟩) (L.length - 1 + 1) cap4)) p R' (d.put k b) (some ⟨g, 0, none⟩) cap tab' ∧ Grew w (w4.setCell ⟨g, k * 2 + 1, none⟩ (.slice (some ⟨g4, 0, none⟩) (L.length - 1 + 1) cap4)) R R') := Lib.hid ⟨R', tab', hd5, (Grew.of_nil R HHD.out).trans hg5⟩
      clear hd5 hg5 hc5 hcl4 hfz4 hKw hrow1 hb2 ho4 qk4 hf4 hHeld
      generalize w4.setCell ⟨g, k * 2 + 1, none⟩ (.slice (some ⟨g4, 0, none⟩) (L.length - 1 + 1) cap4) = w5 at *
      go_wp2_with fail
      go_meet
      exact HF
    · skip
      go_simp
      refine (cloneB_walk (cap := cb) (HRW.out.keep hKw) (fun h => by subst h; have := HRW.out.cell (by omega); obtain ⟨_, _, h1, _⟩ := this; cases h1) (by omega)).mono ?_
      rintro e w2 ⟨a1, cap1, rfl, ho1, qk, hf1⟩
      have ho1' : Own w2 5 1 a1 cap1 b.length (byteV b) := ho1
      rw [hbl] at ho1 ⊢
      obtain ⟨g1, hg1, hg1l, hrow1⟩ := clone_block ho1' hbl hwf
      have hg1n : v0.heap.size ≤ g1 := Nat.le_trans hKw.size (hf1 g1 (by rw [hg1]; exact (blkOf_some _ _ _ _).2 rfl))
      clear hf1 ho1 ho1' hg1l
      subst hg1
      refine (fun hHeld => hK _ _ hHeld ?_) (((hKw.trans qk).cell c0 (fun h => h)))
      clear hK
      try simp only [Act.put, List.setIfInBounds_toArray, List.set_cons_zero, List.set_cons_succ]
      replace hKw := hKw.trans qk
      replace t2 := t2.keep0 qk
      refine bothL (i := 12) (j := 15) rfl rfl (by kernel_rfl) (fun K hK => ?_) (fun K hK => ?_)
      · skip
        have t2c := t2
        unfold CellIs at t2c
        go_simp
        clear t2c t2
        refine (fun hHeld => hK _ _ hHeld ?_) ((hKw.cell c0 (fun h => h)))
        clear hK
        try simp only [Act.put, List.setIfInBounds_toArray, List.set_cons_zero, List.set_cons_succ]
        refine onlyL (i := 15) rfl (by kernel_rfl) (fun K hK => ?_)
        refine step_bsK rfl 83 25 1 _ rfl [.slice (some ⟨g1, 0, none⟩) 128 cap1] Tryd.underlying83 Tryd.bsSls rfl (by decide) (by decide) (by simp [Act.eval]) (by simp [Value.cells]) ?_
        intro g2 w3 hg2 hb2 qk
        clear hg2
        refine (fun hHeld => hK _ _ hHeld ?_) (((hKw.trans qk).cell c0 (fun h => h)))
        clear hK
        try simp only [Act.put, List.setIfInBounds_toArray, List.set_cons_zero, List.set_cons_succ]
        replace hKw := hKw.trans qk
        replace hrow1 := hrow1.keep qk
        refine onlyL (i := 16) rfl (by kernel_rfl) (fun K hK => ?_)
        have hg1l := (hrow1.cell (by omega))
        refine step_appendO rfl _ _ 83 rfl 25 1 24 Tryd.underlying83 Tryd.infoSls (by omega) la lc (L.length - 1) pv rfl (hlo.keep0 hKw) (some ⟨g2, 0, none⟩) 1 1 [.slice (some ⟨g1, 0, none⟩) 128 cap1] rfl (Src.one hb2 rfl) (by unfold maxLen; omega) (by omega) ?_
        intro a4 cap4 w4 ho4 qk4 hf4
        obtain ⟨g4, hg4, _, _⟩ := ho4.some (by omega)
        subst hg4
        have hpre := HD.out.loosen_pre (by rw [HVN.out]; exact hk) HL.out.2.1 hKw qk4
        have hpost := HD.out.loosen (by rw [HVN.out]; exact hk) HLL.out HL.out.2.2.2.2.2 hlo HL.out.2.1 (HLB.out) hKw hrow1 hg1n (by obtain ⟨b', o', h1, h2, _⟩ := hg1l; cases h1; exact h2) qk4 ho4 (hf4 g4 ((blkOf_some _ _ _ _).2 rfl))
        clear hg1l
        refine (fun hHeld => hK _ _ hHeld ?_) ((qk4.cell (hKw.cell c0 (fun h => h)) hpre.2.2.1))
        clear hK
        try simp only [Act.put, List.setIfInBounds_toArray, List.set_cons_zero, List.set_cons_succ]
        refine takeL (i := 17) (v := _) rfl (by kernel_rfl) (by kernel_rfl) (by kernel_rfl) (fun _ _ _ h => h) (Or.inl ⟨by rfl, by intro w hSw; (try dsimp only at hSw); go_simp; try with_reducible rfl⟩) (by assumption) ?_
        try simp only [Act.put, List.setIfInBounds_toArray, List.set_cons_zero, List.set_cons_succ]
        refine takeL (i := 18) (v := _) rfl (by kernel_rfl) (by kernel_rfl) (by kernel_rfl) (fun _ _ _ h => h) (Or.inl ⟨by rfl, by intro w hSw; (try dsimp only at hSw); go_simp; try with_reducible rfl⟩) (by assumption) ?_
        try simp only [Act.put, List.setIfInBounds_toArray, List.set_cons_zero, List.set_cons_succ]
        refine onlyL (i := 19) rfl (by kernel_rfl) (fun K hK => ?_)
        obtain ⟨⟨vold, hcl4⟩, hfz4, _, hpg⟩ := hpre
        refine step_storeS rfl 83 Tryd.sizeSls _ _ rfl g (k * 2 + 1) rfl (some ⟨g4, 0, none⟩) (L.length - 1 + 1) cap4 rfl hcl4 hfz4 ?_
        obtain ⟨R', tab', hd5, hg5⟩ := hpost
        have hc5 := hd5.obj.cell 0 rfl
        rw [show (d.put k b).vs.length = vn by rw [← HVN.out]; simp [Dk.put]] at hc5
        refine (fun hHeld => hK _ _ hHeld ?_) (hc5)
        clear hK
        try simp only [Act.put, List.setIfInBounds_toArray, List.set_cons_zero, List.set_cons_succ]
        refine wpAnyH_done (by kernel_rfl) ?_ _
        have HF : Hid (∃ R' tab', DiskAt (w4.setCell ⟨g, k * 2 + 1, none⟩ (.slice (some ⟨g4, 0, none⟩) (L.length - 1 + 1) cap4)) p R' (d.put k b) (some ⟨g, 0, none⟩) cap tab' ∧ Grew w (w4.setCell ⟨g, k * 2 + 1, none⟩ (.slice (some ⟨g4, 0, none⟩) (L.length - 1 + 1) cap4)) R R') := Lib.hid ⟨R', tab', hd5, (Grew.of_nil R HHD.out).trans hg5⟩
        clear hd5 hg5 hc5 hcl4 hfz4 hKw hrow1 hb2 ho4 qk4 hf4 hHeld
        generalize w4.setCell ⟨g, k * 2 + 1, none⟩ (.slice (some ⟨g4, 0, none⟩) (L.length - 1 + 1) cap4) = w5 at *
        go_wp2_with fail
        go_meet
        exact HF
      · skip
        refine step_bsK rfl 83 25 1 _ rfl [.slice (some ⟨g1, 0, none⟩) 128 cap1] Tryd.underlying83 Tryd.bsSls rfl (by decide) (by decide) (by simp [Act.eval]) (by simp [Value.cells]) ?_
        intro g2 w3 hg2 hb2 qk
        clear hg2
        refine (fun hHeld => hK _ _ hHeld ?_) (((hKw.trans qk).cell c0 (fun h => h)))
        clear hK
        try simp only [Act.put, List.setIfInBounds_toArray, List.set_cons_zero, List.set_cons_succ]
        replace hKw := hKw.trans qk
        replace t2 := t2.keep0 qk
        replace hrow1 := hrow1.keep qk
        refine onlyL (i := 12) rfl (by kernel_rfl) (fun K hK => ?_)
        have t2c := t2
        unfold CellIs at t2c
        go_simp
        clear t2c t2
        refine (fun hHeld => hK _ _ hHeld ?_) ((hKw.cell c0 (fun h => h)))
        clear hK
        try simp only [Act.put, List.setIfInBounds_toArray, List.set_cons_zero, List.set_cons_succ]
        refine onlyL (i := 16) rfl (by kernel_rfl) (fun K hK => ?_)
        have hg1l := (hrow1.cell (by omega))
        refine step_appendO rfl _ _ 83 rfl 25 1 24 Tryd.underlying83 Tryd.infoSls (by omega) la lc (L.length - 1) pv rfl (hlo.keep0 hKw) (some ⟨g2, 0, none⟩) 1 1 [.slice (some ⟨g1, 0, none⟩) 128 cap1] rfl (Src.one hb2 rfl) (by unfold maxLen; omega) (by omega) ?_
        intro a4 cap4 w4 ho4 qk4 hf4
        obtain ⟨g4, hg4, _, _⟩ := ho4.some (by omega)
        subst hg4
        have hpre := HD.out.loosen_pre (by rw [HVN.out]; exact hk) HL.out.2.1 hKw qk4
        have hpost := HD.out.loosen (by rw [HVN.out]; exact hk) HLL.out HL.out.2.2.2.2.2 hlo HL.out.2.1 (HLB.out) hKw hrow1 hg1n (by obtain ⟨b', o', h1, h2, _⟩ := hg1l; cases h1; exact h2) qk4 ho4 (hf4 g4 ((blkOf_some _ _ _ _).2 rfl))
        clear hg1l
        refine (fun hHeld => hK _ _ hHeld ?_) ((qk4.cell (hKw.cell c0 (fun h => h)) hpre.2.2.1))
        clear hK
        try simp only [Act.put, List.setIfInBounds_toArray, List.set_cons_zero, List.set_cons_succ]
        refine takeL (i := 17) (v := _) rfl (by kernel_rfl) (by kernel_rfl) (by kernel_rfl) (fun _ _ _ h => h) (Or.inl ⟨by rfl, by intro w hSw; (try dsimp only at hSw); go_simp; try with_reducible rfl⟩) (by assumption) ?_
        try simp only [Act.put, List.setIfInBounds_toArray, List.set_cons_zero, List.set_cons_succ]
        refine takeL (i := 18) (v := _) rfl (by kernel_rfl) (by kernel_rfl) (by kernel_rfl) (fun _ _ _ h => h) (Or.inl ⟨by rfl, by intro w hSw; (try dsimp only at hSw); go_simp; try with_reducible rfl⟩) (by assumption) ?_
        try simp only [Act.put, List.setIfInBounds_toArray, List.set_cons_zero, List.set_cons_succ]
        refine onlyL (i := 19) rfl (by kernel_rfl) (fun K hK => ?_)
        obtain ⟨⟨vold, hcl4⟩, hfz4, _, hpg⟩ := hpre
        refine step_storeS rfl 83 Tryd.sizeSls _ _ rfl g (k * 2 + 1) rfl (some ⟨g4, 0, none⟩) (L.length - 1 + 1) cap4 rfl hcl4 hfz4 ?_
        obtain ⟨R', tab', hd5, hg5⟩ := hpost
        have hc5 := hd5.obj.cell 0 rfl
        rw [show (d.put k b).vs.length = vn by rw [← HVN.out]; simp [Dk.put]] at hc5
        refine (fun hHeld => hK _ _ hHeld ?_) (hc5)
        clear hK
        try simp only [Act.put, List.setIfInBounds_toArray, List.set_cons_zero, List.set_cons_succ]
        refine wpAnyH_done (by kernel_rfl) ?_ _
        have HF : Hid (∃ R' tab', DiskAt (w4.setCell ⟨g, k * 2 + 1, none⟩ (.slice (some ⟨g4, 0, none⟩) (L.length - 1 + 1) cap4)) p R' (d.put k b) (some ⟨g, 0, none⟩) cap tab' ∧ Grew w (w4.setCell ⟨g, k * 2 + 1, none⟩ (.slice (some ⟨g4, 0, none⟩) (L.length - 1 + 1) cap4)) R R') := Lib.hid ⟨R', tab', hd5, (Grew.of_nil R HHD.out).trans hg5⟩
        clear hd5 hg5 hc5 hcl4 hfz4 hKw hrow1 hb2 ho4 qk4 hf4 hHeld
        generalize w4.setCell ⟨g, k * 2 + 1, none⟩ (.slice (some ⟨g4, 0, none⟩) (L.length - 1 + 1) cap4) = w5 at *
        go_wp2_with fail
        go_meet
        exact HF
  case rest =>
  obtain ⟨R', tab', hd5, hg5⟩ := hcut.out
  have HG := Lib.hid (goes_walk hd5 HOK.out.left)
  have HG5 := Lib.hid hg5
  have HM5 := Lib.hid hd5.me
  clear hd5 hg5 c0 c1 t1 t2 hcut
  go_wp2_with fail
  refine HG.out.mono ?_
  rintro e w6 ⟨rfl, hd6, hk6⟩
  have hgr : Grew w w6 R R' := HG5.out.trans ⟨hk6.mono (fun x hx => by unfold Wr; rw [show x = p from hx, HM5.out]; exact Nat.le_refl _), fun _ _ => rfl⟩
  have HF := Lib.hid (And.intro hd6.is hgr)
  have g0 : w6.cell? ⟨0, 0, none⟩ = some (errV pe 0) := (HEE.out w6 hgr.keeps).at_ 0 (by decide)
  have HV : Hid (errO pe (some 0) = errV pe 0) := Lib.hid rfl
  have HO : Hid (errO pe none = .nilIface) := Lib.hid rfl
  have hgE : goesE (d.put k b).goes = if (d.put k b).goes.off = true then some 0 else none := rfl
  have HGE := Lib.hid hgE
  clear hgE hd6 hk6 hgr HG
  generalize errV pe 0 = V at *
  cases hq : (d.put k b).goes.off with
  | true =>
    have HE1 : Hid (errO pe (goesE (d.put k b).goes) = V) := Lib.hid (by rw [HGE.out, hq, if_pos rfl]; exact HV.out)
    clear hq HGE
    go_wp2_with fail
    go_ret
    exact ⟨R', by rw [HE1.out]; rfl, HF.out⟩
  | false =>
    have HE1 : Hid (errO pe (goesE (d.put k b).goes) = .nilIface) := Lib.hid (by rw [HGE.out, hq, if_neg (by simp)]; exact HO.out)
    clear hq HGE
    go_wp2_with fail
    go_ret
    exact ⟨R', by rw [HE1.out]; rfl, HF.out⟩
set_option maxRecDepth 20000 in
set_option maxHeartbeats 800000 in
theorem write_walk {w : World} {p : Nat} {R : Roles} {d : Dk} {pe : Nat → Addr} (hE : ∀ w', Keeps (Wr R) w w' → Err2 w' pe) (h : IsDisk w p R d) {m : Nat} (hok : d.Ok m) (hm9 : m ≤ 1000000) (i : Int)
    {ab : Option Addr} {n cb : Nat} {b : List Int} (hb : Row .u8 w ab n b) :
    Calls Tryd.prog 16 #[.pointer (some ⟨p, 0, none⟩), .int .i64 i, .slice ab n cb] w (WriteP w p R (d.write i b).1 (errO pe (d.write i b).2)) := by
  have hbl := hb.llen
  by_cases ho : d.off = true
  · have hw : d.write i b = (d, some 0) := by unfold Dk.write; rw [if_pos ho]
    rw [hw]
    have g0 : w.cell? ⟨0, 0, none⟩ = some (errV pe 0) := (hE w (Keeps.refl _ _)).at_ 0 (by decide)
    have HV : Hid (errO pe (some 0) = errV pe 0) := Lib.hid rfl
    have HH := Lib.hid h
    obtain ⟨a, cap, tab, hA⟩ := h
    have c1 := hA.obj.cell 1 rfl
    rw [ho] at c1
    clear hE hA hok hb hw
    generalize errV pe 0 = V at *
    go_enter Tryd.func16, Tryd.ntmps16
    go_wp2_with fail
    go_ret
    exact ⟨R, by rw [HV.out]; rfl, HH.out, Grew.refl _ _⟩
  · have ho' : d.off = false := by simpa using ho
    by_cases hr : i < 0 ∨ (d.vs.length : Int) ≤ i ∨ b.length ≠ 128
    · have hw : d.write i b = (d, some 1) := by unfold Dk.write; rw [if_neg ho, if_pos hr]
      rw [hw]
      have g0 : w.cell? ⟨1, 0, none⟩ = some (errV pe 1) := (hE w (Keeps.refl _ _)).at_ 1 (by decide)
      have HV : Hid (errO pe (some 1) = errV pe 1) := Lib.hid rfl
      have HI := Lib.hid (diskIs_walk h i)
      have HH := Lib.hid h
      obtain ⟨a, cap, tab, hA⟩ := h
      have c1 := hA.obj.cell 1 rfl
      rw [ho'] at c1
      by_cases hi : 0 ≤ i ∧ i < d.vs.length
      · have hn : ¬ (n : Int) = 128 := by omega
        have hnb : ((n : Int) != 128) = true := by simpa using hn
        rw [decide_eq_true hi] at HI
        clear hE hA hok hb hw hr hi
        generalize errV pe 1 = V at *
        go_enter Tryd.func16, Tryd.ntmps16
        go_wp2_with fail
        refine HI.out.mono ?_
        rintro e w1 ⟨rfl, rfl⟩
        go_wp2_with fail
        go_ret
        exact ⟨R, by rw [HV.out]; rfl, HH.out, Grew.refl _ _⟩
      · rw [decide_eq_false hi] at HI
        clear hE hA hok hb hw hr hi
        generalize errV pe 1 = V at *
        go_enter Tryd.func16, Tryd.ntmps16
        go_wp2_with fail
        refine HI.out.mono ?_
        rintro e w1 ⟨rfl, rfl⟩
        go_wp2_with fail
        go_ret
        exact ⟨R, by rw [HV.out]; rfl, HH.out, Grew.refl _ _⟩
    · obtain ⟨k, rfl⟩ := Int.eq_ofNat_of_zero_le (show 0 ≤ i by omega)
      have hn : n = 128 := by omega
      subst hn
      have hw : d.write k b = ((d.put k b).goes, goesE (d.put k b).goes) := by
        unfold Dk.write goesE
        rw [if_neg ho, if_neg hr]
        rfl
      rw [hw]
      exact writeIn_walk hE h hok hm9 ho' (by omega) hb
end Go.Proofs.YtkefbgkdkmkghaaDoor
